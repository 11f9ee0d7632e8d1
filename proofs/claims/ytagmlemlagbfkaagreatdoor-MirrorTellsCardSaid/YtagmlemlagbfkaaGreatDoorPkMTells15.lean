/- The contracts of the mirror's New, Size, told, at, find, and of content's Text. The contract of the mirror's find. -/
import Derived.Test.YtagmlemlagbfkaaGreatDoorPkMTells14
import Derived.WalkMore
namespace Go.Proofs.YtagmlemlagbfkaaGreatDoor
open Go.RowKit
set_option linter.unusedVariables false
set_option linter.unusedSimpArgs false
attribute [local irreducible] Calls

theorem infoStrM : (Tryz.prog.info? tStrM).map (fun i => (i.zero, i.size, i.bytes)) = some (some (.string ⟨#[]⟩), 1, 16) := by kernel_rfl
theorem bsM_one (l : List (List UInt8)) : ∀ u ∈ l.map bsM, u.oneCell' = true := by
  intro u hu
  obtain ⟨x, _, rfl⟩ := List.mem_map.1 hu
  rfl
theorem mir_fresh (w : World) (hg : nG ≤ w.heap.size) (mode : Int) (hm : 0 ≤ mode ∧ mode < 5) {w' : World} (hb : w'.heap[w.heap.size]? = some (.cells #[.int .i64 mode, .slice none 0 0, .slice none 0 0, .slice none 0 0, .slice none 0 0] tMir (0, 0))) :
    MirAt w.heap.size w' ⟨w.heap.size, fun _ => .slice none 0 0, .slice none 0 0⟩ (Mi.fresh mode) :=
  ⟨hg, Nat.le_refl _, hb, fun i hi => ⟨rfl, Or.inl ⟨rfl, rfl⟩⟩, ⟨rfl, Or.inl ⟨rfl, rfl⟩⟩, fun i k hi hk hik j hj => (by cases hj), ⟨fun i hi => Nat.zero_le _, Nat.zero_le _⟩, hm, fun i hi s hs => (by cases hs), fun s hs => (by cases hs)⟩
set_option maxRecDepth 100000 in
theorem mnew_w (mode : Int) (hi : I64 mode) (w : World) (g : Gl w) : Calls Tryz.prog 66 #[.int .i64 mode] w fun e w' =>
    (0 ≤ mode ∧ mode < 5 ∧ ∃ x : MirR, e = .returned (.pointer (some ⟨x.mb, 0, none⟩)) ∧ MirAt w.heap.size w' x (Mi.fresh mode) ∧ Nw w w') ∨ (¬ (0 ≤ mode ∧ mode < 5) ∧ e = .returned (.pointer none) ∧ Nw w w') := by
  have hgb := g.big
  by_cases h0 : mode < 0
  · have hd : decide (mode < 0) = true := decide_eq_true h0
    have hr : Hid (¬ (0 ≤ mode ∧ mode < 5)) := fun h => by omega
    clear h0
    go_enter Tryz.func66, Tryz.ntmps66
    go_wp2_with fail
    go_ret
    exact Or.inr ⟨hr.out, rfl, Upd.refl _ _⟩
  have hd : decide (mode < 0) = false := decide_eq_false h0
  by_cases h1 : 5 ≤ mode
  · have hd1 : decide (5 ≤ mode) = true := decide_eq_true h1
    have hr : Hid (¬ (0 ≤ mode ∧ mode < 5)) := fun h => by omega
    clear h0 h1
    go_enter Tryz.func66, Tryz.ntmps66
    go_wp2_with fail
    go_ret
    exact Or.inr ⟨hr.out, rfl, Upd.refl _ _⟩
  have hd1 : decide (5 ≤ mode) = false := decide_eq_false h1
  have hr : Hid (0 ≤ mode ∧ mode < 5) := ⟨by omega, by omega⟩
  clear h0 h1
  have HM := Lib.hid (mir_fresh w hgb mode hr.out (heap_new w (.cells #[.int .i64 mode, .slice none 0 0, .slice none 0 0, .slice none 0 0, .slice none 0 0] tMir)))
  go_enter Tryz.func66, Tryz.ntmps66
  go_wp2_with fail
  go_ret
  exact Or.inl ⟨hr.out.1, hr.out.2, _, rfl, HM.out, nw_alloc w _⟩
theorem size_results (tmps : Array Value) (w : World) : (results Tryz.f12 tmps).run Tryz.prog w = .ok (.tuple #[tmps.getD 2 undef, tmps.getD 3 undef, tmps.getD 4 undef, tmps.getD 5 undef]) w := by
  simp [results, Tryz.results12, go_sem]
section
variable {B : Nat} {w : World} {x : MirR} {m : Mi.Mir}
theorem mir_slices (h : MirAt B w x m) : (∃ a c, x.sv 0 = .slice a (m.l 0).length c) ∧ (∃ a c, x.sv 1 = .slice a (m.l 1).length c) ∧ (∃ a c, x.sv 2 = .slice a (m.l 2).length c) ∧ ∃ a c, x.cv = .slice a m.cs.length c :=
  ⟨own_slG (h.sown 0 (by decide)), own_slG (h.sown 1 (by decide)), own_slG (h.sown 2 (by decide)), own_slG h.cown⟩
set_option maxRecDepth 100000 in
theorem msize_w (h : MirAt B w x m) : Calls Tryz.prog 12 #[.pointer (some ⟨x.mb, 0, none⟩)] w fun e w' => e = .returned (.tuple #[.int .i64 (m.l 0).length, .int .i64 (m.l 1).length, .int .i64 (m.l 2).length, .int .i64 m.cs.length]) ∧ Nw w w' := by
  obtain ⟨_, c1, c2, c3, c4⟩ := h.cells
  obtain ⟨⟨_, _, e0⟩, ⟨_, _, e1⟩, ⟨_, _, e2⟩, ⟨_, _, e3⟩⟩ := mir_slices h
  rw [e0] at c1
  rw [e1] at c2
  rw [e2] at c3
  rw [e3] at c4
  have l1 := fun i : Later w => later_cell i c1
  have l2 := fun i : Later w => later_cell i c2
  have l3 := fun i : Later w => later_cell i c3
  have l4 := fun i : Later w => later_cell i c4
  clear h
  go_enter Tryz.func12, Tryz.ntmps12
  go_wp2_with fail
  refine wp_region_nw (by kernel_rfl) (by kernel_rfl) ?_
  repeat (go_big_quiet_step ((fail)))
  refine wpQuiet_nil ?_
  intro w1 u1
  replace u1 := later_out u1
  go_wp2_with fail
  (try simp only [Exit.inBlock, Exit.then])
  refine bodyPost_ret (size_results _ _) rfl ?_
  exact ⟨rfl, u1⟩
end
/-! ### A slice of signatures, or the beginning of one -/
def SgnSl (w : World) (v : Value) (L : List Bk.Sgn) : Prop := ∃ a cap, v = .slice a L.length cap ∧ L.length ≤ cap ∧ cap ≤ maxLen ∧ (a = none ∨ ∃ b off, a = some ⟨b, off, none⟩) ∧
  (L = [] ∨ ∃ b off, a = some ⟨b, off, none⟩ ∧ ∀ i (h : i < L.length), w.cell? ⟨b, off + i * 3, none⟩ = some (.int .i64 L[i].key) ∧ w.cell? ⟨b, off + i * 3 + 1, none⟩ = some (.string ⟨L[i].text.toArray⟩) ∧ w.cell? ⟨b, off + i * 3 + 2, none⟩ = some (.int .i64 L[i].mark))
theorem SgnSl.of_own {B : Nat} {w : World} {v : Value} {L : List Bk.Sgn} (h : w.ownsRow B tSigned 3 v L.length (flatS L)) : SgnSl w v L := by
  obtain ⟨a, cap, rfl, hm, hc⟩ := sgn_cells (sgn_sls h)
  refine ⟨a, cap, rfl, ?_, ?_, ?_, ?_⟩
  · rcases h.2 with ⟨h1, h2⟩ | ⟨g, cap', cur, h1, _, _, h2, h3, _⟩
    · rw [h2]; exact Nat.zero_le _
    · simp only [Value.slice.injEq, true_and] at h1
      rw [h1.2]; exact h2
  · rcases h.2 with ⟨h1, h2⟩ | ⟨g, cap', cur, h1, _, _, h2, h3, _⟩
    · simp only [Value.slice.injEq] at h1
      rw [h1.2.2]; exact Nat.zero_le _
    · simp only [Value.slice.injEq, true_and] at h1
      rw [h1.2]; exact h3
  · rcases h.2 with ⟨h1, h2⟩ | ⟨g, cap', cur, h1, _⟩
    · simp only [Value.slice.injEq] at h1
      exact Or.inl h1.1
    · simp only [Value.slice.injEq, true_and] at h1
      exact Or.inr ⟨_, _, h1.1⟩
  · rcases hc with hc | ⟨b, off, e, _, _, hc⟩
    · exact Or.inl hc
    · exact Or.inr ⟨b, off, e, hc⟩
theorem SgnSl.nw {w w' : World} {v : Value} {L : List Bk.Sgn} (h : SgnSl w v L) (u : Nw w w') : SgnSl w' v L := by
  obtain ⟨a, cap, rfl, h1, h2, h3, h4⟩ := h
  refine ⟨a, cap, rfl, h1, h2, h3, h4.imp id ?_⟩
  rintro ⟨b, off, e, hc⟩
  refine ⟨b, off, e, fun i hi => ?_⟩
  obtain ⟨k1, k2, k3⟩ := hc i hi
  exact ⟨later_cell ⟨w', u⟩ k1, later_cell ⟨w', u⟩ k2, later_cell ⟨w', u⟩ k3⟩
theorem told_length {α : Type} (mode : Int) (l : List α) : (Mi.told mode l).length = if mode = 2 then l.length / 2 else l.length := by
  unfold Mi.told
  split
  · rw [List.length_take]; omega
  · rfl
theorem SgnSl.told {w : World} {a : Option Addr} {cap : Nat} {L : List Bk.Sgn} (h : SgnSl w (.slice a L.length cap) L) (mode : Int) : SgnSl w (.slice a (Mi.told mode L).length cap) (Mi.told mode L) := by
  obtain ⟨a', cap', e, h1, h2, h3, h4⟩ := h
  simp only [Value.slice.injEq, true_and] at e
  obtain ⟨rfl, rfl⟩ := e
  have hl := Mi.told_len mode L
  refine ⟨a, cap, rfl, by omega, h2, h3, ?_⟩
  rcases h4 with rfl | ⟨b, off, e, hc⟩
  · left
    unfold Mi.told
    split <;> rfl
  · refine Or.inr ⟨b, off, e, fun i hi => ?_⟩
    have hi2 : i < L.length := by omega
    have e2 : (Mi.told mode L)[i] = L[i] := by
      unfold Mi.told
      split
      · exact List.getElem_take
      · rfl
    rw [e2]
    exact hc i hi2
set_option maxRecDepth 100000 in
theorem toldS_w (mb : Nat) (mode : Int) (a : Option Addr) (n cap k : Nat) (hk : k = if mode = 2 then n / 2 else n) (w : World) (hc : w.cell? ⟨mb, 0, none⟩ = some (.int .i64 mode)) (hn : n ≤ cap) (hcap : cap ≤ maxLen) (ha : a = none ∨ ∃ b off, a = some ⟨b, off, none⟩) :
    Calls Tryz.prog 129 #[.pointer (some ⟨mb, 0, none⟩), .slice a n cap] w fun e w' => e = .returned (.slice a k cap) ∧ Nw w w' := by
  unfold maxLen at hcap
  by_cases hm : mode = 2
  · rw [if_pos hm] at hk
    have hd : (mode == 2) = true := by simp [hm]
    have h2 : ((n / 2 : Nat) : Int) ≤ cap := by omega
    subst hk
    clear ha hm
    go_enter Tryz.func129, Tryz.ntmps129
    go_wp2_with fail
    go_ret
    exact ⟨rfl, Upd.refl _ _⟩
  · rw [if_neg hm] at hk
    have hd : (mode == 2) = false := by simp [hm]
    subst hk
    clear hm ha
    go_enter Tryz.func129, Tryz.ntmps129
    go_wp2_with fail
    go_ret
    exact ⟨rfl, Upd.refl _ _⟩
set_option maxRecDepth 100000 in
theorem toldT_w (mb : Nat) (mode : Int) (a : Option Addr) (n cap k : Nat) (hk : k = if mode = 2 then n / 2 else n) (w : World) (hc : w.cell? ⟨mb, 0, none⟩ = some (.int .i64 mode)) (hn : n ≤ cap) (hcap : cap ≤ maxLen) (ha : a = none ∨ ∃ b off, a = some ⟨b, off, none⟩) :
    Calls Tryz.prog 72 #[.pointer (some ⟨mb, 0, none⟩), .slice a n cap] w fun e w' => e = .returned (.slice a k cap) ∧ Nw w w' := by
  unfold maxLen at hcap
  by_cases hm : mode = 2
  · rw [if_pos hm] at hk
    have hd : (mode == 2) = true := by simp [hm]
    have h2 : ((n / 2 : Nat) : Int) ≤ cap := by omega
    subst hk
    clear ha hm
    go_enter Tryz.func72, Tryz.ntmps72
    go_wp2_with fail
    go_ret
    exact ⟨rfl, Upd.refl _ _⟩
  · rw [if_neg hm] at hk
    have hd : (mode == 2) = false := by simp [hm]
    subst hk
    clear hm ha
    go_enter Tryz.func72, Tryz.ntmps72
    go_wp2_with fail
    go_ret
    exact ⟨rfl, Upd.refl _ _⟩
set_option maxRecDepth 100000 in
theorem at_w (v : Value) (L : List Bk.Sgn) (w : World) (g : Gl w) (hv : SgnSl w v L) (i : Int) (hi : I64 i) :
    Calls Tryz.prog 130 #[v, .int .i64 i] w fun e w' => ∃ v', e = .returned v' ∧ w'.ownsRow w.heap.size tSigned 3 v' (Mi.atL L i).length (flatS (Mi.atL L i)) ∧ Nw w w' := by
  have hgb := g.big
  obtain ⟨a, cap, rfl, h1, h2, h3, h4⟩ := hv
  have hl1 : (L.length : Int) ≤ 9223372036854775807 := by unfold maxLen at h2; omega
  by_cases h0 : i < 0
  · have hd : decide (i < 0) = true := decide_eq_true h0
    have hr : Hid (Mi.atL L i = []) := by show _ = _; exact Mi.atL_out (Or.inl h0)
    clear h0 h1 h2 h3 h4
    go_enter Tryz.func130, Tryz.ntmps130
    go_wp2_with fail
    go_ret
    exact ⟨_, rfl, by rw [hr.out]; exact ⟨rfl, Or.inl ⟨rfl, rfl⟩⟩, Upd.refl _ _⟩
  have hd : decide (i < 0) = false := decide_eq_false h0
  by_cases h5 : (L.length : Int) ≤ i
  · have hd5 : decide ((L.length : Int) ≤ i) = true := decide_eq_true h5
    have hr : Hid (Mi.atL L i = []) := by show _ = _; exact Mi.atL_out (Or.inr h5)
    clear h0 h1 h2 h3 h4 h5
    go_enter Tryz.func130, Tryz.ntmps130
    go_wp2_with fail
    go_ret
    exact ⟨_, rfl, by rw [hr.out]; exact ⟨rfl, Or.inl ⟨rfl, rfl⟩⟩, Upd.refl _ _⟩
  have hd5 : decide ((L.length : Int) ≤ i) = false := decide_eq_false h5
  obtain ⟨n, rfl⟩ : ∃ n : Nat, i = n := ⟨i.toNat, by omega⟩
  have hn : n < L.length := by omega
  have hn1 : (n : Int) < L.length := by omega
  rcases h4 with rfl | ⟨b, off, rfl, hc⟩
  · simp at hn
  obtain ⟨c0, c1, c2⟩ := hc n hn
  have hr : Hid (Mi.atL L n = [L[n]]) := by show _ = _; exact Mi.atL_get hn
  have ho : Hid ((w.alloc (.cells (sgl L[n]).toArray tSigned)).ownsRow w.heap.size tSigned 3 (.slice (some ⟨w.heap.size, 0, none⟩) 1 1) 1 (flatS [L[n]])) := by
    refine ⟨by simp [flatS, sgl], Or.inr ⟨_, _, _, rfl, Nat.le_refl _, heap_new w _, Nat.le_refl _, by unfold maxLen; decide, by simp [sgl], ?_⟩⟩
    simp [flatS, sgl]
  clear h0 h5 h1 h2 h3 hc
  generalize L[n] = s at *
  go_enter Tryz.func130, Tryz.ntmps130
  go_wp2_with fail
  go_ret
  exact ⟨_, rfl, by rw [hr.out]; exact ho.out, nw_alloc w _⟩
/-! ### content.Text -/
set_option maxRecDepth 100000 in
theorem ctext_w (lo hi : Nat) (v : Value) (l : List (List UInt8)) (w : World) (hv : Sl lo hi w v (l.map bsM)) (i : Int) (hi2 : I64 i) :
    Calls Tryz.prog 71 #[v, .int .i64 i] w fun e w' => e = .returned (.tuple #[.string ⟨(Mi.textC l i).1.toArray⟩, .bool (Mi.textC l i).2]) ∧ Nw w w' := by
  obtain ⟨a, cap, rfl, hm, hc⟩ := hv.open_
  rw [List.length_map] at hm hc ⊢
  have hl1 : (l.length : Int) ≤ 9223372036854775807 := by unfold maxLen at hm; omega
  by_cases h0 : i < 0
  · have hd : decide (i < 0) = true := decide_eq_true h0
    have hr : Hid (Mi.textC l i = ([], false)) := by show _ = _; unfold Mi.textC; rw [if_pos (Or.inl h0)]
    clear h0 hc hv
    go_enter Tryz.func71, Tryz.ntmps71
    go_wp2_with fail
    go_ret2
    exact ⟨by rw [hr.out]; rfl, Upd.refl _ _⟩
  have hd : decide (i < 0) = false := decide_eq_false h0
  by_cases h5 : (l.length : Int) ≤ i
  · have hd5 : decide ((l.length : Int) ≤ i) = true := decide_eq_true h5
    have hr : Hid (Mi.textC l i = ([], false)) := by show _ = _; unfold Mi.textC; rw [if_pos (Or.inr h5)]
    clear h0 h5 hc hv
    go_enter Tryz.func71, Tryz.ntmps71
    go_wp2_with fail
    go_ret2
    exact ⟨by rw [hr.out]; rfl, Upd.refl _ _⟩
  have hd5 : decide ((l.length : Int) ≤ i) = false := decide_eq_false h5
  obtain ⟨n, rfl⟩ : ∃ n : Nat, i = n := ⟨i.toNat, by omega⟩
  have hn : n < l.length := by omega
  have hn1 : (n : Int) < l.length := by omega
  have hr : Hid (Mi.textC l n = (l[n], true)) := by
    show _ = _; unfold Mi.textC
    rw [if_neg (by omega), Int.toNat_natCast, List.getD_eq_getElem?_getD, List.getElem?_eq_getElem hn]; rfl
  rcases hc with ⟨_, _, hnil⟩ | ⟨b, off, rfl, _, _, _, hc⟩
  · rw [List.map_eq_nil_iff] at hnil
    rw [hnil] at hn; simp at hn
  have c0 := hc n hn
  rw [List.getElem?_map, List.getElem?_eq_getElem hn] at c0
  have c1 : w.cell? ⟨b, off + n, none⟩ = some (.string ⟨(l[n]).toArray⟩) := c0
  clear h0 h5 hc c0 hv
  go_enter Tryz.func71, Tryz.ntmps71
  go_wp2_with fail
  go_ret2
  exact ⟨by rw [hr.out]; rfl, Upd.refl _ _⟩
/-! ### find -/
abbrev tQue : TypeId := 39
abbrev qV (q : Mi.Ques) : Value := .agg #[.int .i64 q.kind, .int .i64 q.n, .string ⟨q.text.toArray⟩]
abbrev qObj (q : Mi.Ques) : Obj := .cells #[.int .i64 q.kind, .int .i64 q.n, .string ⟨q.text.toArray⟩] tQue
structure QOk (q : Mi.Ques) : Prop where
  kind : I64 q.kind
  n : I64 q.n
  t : q.text.length ≤ 1000000
/-- What find returns. -/
def FindTo (w : World) (l : List Bk.Sgn) (e : Ending) (w' : World) : Prop := ∃ v', e = .returned v' ∧ w'.ownsRow w.heap.size tSigned 3 v' l.length (flatS l) ∧ Nw w w'
theorem FindTo.of {w w1 w' : World} {l : List Bk.Sgn} {v' : Value} (ho : w'.ownsRow w1.heap.size tSigned 3 v' l.length (flatS l)) (u1 : Nw w w1) (u2 : Nw w1 w') : FindTo w l (.returned v') w' :=
  ⟨v', rfl, owns_base ho u1.size, u1.trans u2⟩
theorem find_some {l : List Bk.Sgn} {p : Bk.Sgn → Bool} {i : Nat} (h : i < l.length) (hp : p l[i] = true) (hn : ∀ x ∈ l.drop (i + 1), p x = false) : (l.reverse.find? p).toList = Mi.atL l i := by
  rw [Mi.find_last h hp hn, Mi.atL_get h]
  rfl
section
variable {B : Nat} {w : World} {x : MirR} {m : Mi.Mir}
set_option maxHeartbeats 1000000 in
set_option maxRecDepth 100000 in
theorem find_head (h : MirAt B w x m) (g : Gl w) (q : Mi.Ques) (hq : QOk q) (h0 : q.kind = 0) :
    Calls Tryz.prog 70 #[.pointer (some ⟨x.mb, 0, none⟩), qV q] w (FindTo w (Mi.find m q)) := by
  have hgb := g.big
  have n1 := nw_alloc w (qObj q)
  have k1 := heap_new w (qObj q)
  obtain ⟨w1, hw1⟩ : ∃ w1, w.alloc (qObj q) = w1 := ⟨_, rfl⟩
  have HW1 : Hid (w.alloc (.cells #[.int .i64 q.kind, .int .i64 q.n, .string ⟨q.text.toArray⟩] tQue) = w1) := hw1
  rw [hw1] at n1 k1
  clear hw1
  have h1 := h.nw n1
  obtain ⟨c0, c1, c2, c3, -⟩ := h1.cells
  obtain ⟨q0, q1, q2⟩ := cell3 k1
  have K1 := Lib.hid k1
  have N1 := Lib.hid n1
  have H1 := Lib.hid h1
  clear k1 n1 h1
  obtain ⟨aH, cH, eH⟩ := own_slG (H1.out.sown 1 (by decide))
  have hs := SgnSl.of_own (H1.out.sown 1 (by decide))
  rw [eH] at hs c2
  have ht := hs.told m.mode
  obtain ⟨_, _, ev, hs1, hs2, hs3, -⟩ := hs
  simp only [Value.slice.injEq, true_and] at ev
  obtain ⟨rfl, rfl⟩ := ev
  have htw := fun (z : World) (u : Nw w1 z) => toldS_w x.mb m.mode aH _ _ _ (told_length m.mode (m.l 1)) z (later_cell ⟨z, u⟩ c0) hs1 hs2 hs3
  have Htw := Lib.hid htw
  have Ht := Lib.hid ht
  have hle : (Mi.told m.mode (m.l 1)).length ≤ 1000000 := Nat.le_trans (Mi.told_len _ _) (H1.out.len.1 1 (by decide))
  have hle1 : ((Mi.told m.mode (m.l 1)).length : Int) ≤ 1000000 := by omega
  have hle0 : (0 : Int) ≤ ((Mi.told m.mode (m.l 1)).length : Int) := by omega
  have hf : Hid (Mi.find m q = if m.mode = 3 then Mi.atL (Mi.told m.mode (m.l 1)) 0 else Mi.atL (Mi.told m.mode (m.l 1)) ((Mi.told m.mode (m.l 1)).length - 1)) := by show _ = _; unfold Mi.find; rw [if_pos h0]
  have G1 := Lib.hid (g.upd N1.out)
  rw [h0] at q0
  have HW2 : Hid (w.alloc (.cells #[.int .i64 0, .int .i64 q.n, .string ⟨q.text.toArray⟩] tQue) = w1) := by rw [← h0]; exact HW1.out
  clear htw ht hs1 hs2 hs3 hle hq h
  generalize Mi.told m.mode (m.l 1) = T at *
  unfold qV
  rw [h0]
  clear h0 HW1
  by_cases h3 : m.mode = 3
  · have hd3 : (m.mode == 3) = true := by simp [h3]
    have hf2 : Hid (Mi.find m q = Mi.atL T 0) := by show _ = _; rw [hf.out, if_pos h3]
    clear h3 hf
    go_enter Tryz.func70, Tryz.ntmps70
    go_upto_region 1 with fail
    rw [HW2.out]
    go_wp2_with fail
    (with_reducible refine (Htw.out _ (Upd.refl _ _)).mono ?_)
    rintro _ w2 ⟨rfl, u2⟩
    have c0' := later_cell ⟨w2, u2⟩ c0
    have hat := Lib.hid (at_w _ T w2 (G1.out.upd u2) (Ht.out.nw u2) 0 (by unfold I64; omega))
    clear c0
    go_wp2_with fail
    (with_reducible refine (hat.out).mono ?_)
    rintro _ w3 ⟨v3, rfl, o3, u3⟩
    have O3 := Lib.hid o3
    have hfin := Lib.hid (And.intro (N1.out.trans u2) u3)
    clear o3 u2 u3
    go_wp2_with fail
    go_ret
    rw [hf2.out]
    exact FindTo.of O3.out hfin.out.1 hfin.out.2
  · have hd3 : (m.mode == 3) = false := by simp [h3]
    have hf2 : Hid (Mi.find m q = Mi.atL T (T.length - 1)) := by show _ = _; rw [hf.out, if_neg h3]
    clear h3 hf
    go_enter Tryz.func70, Tryz.ntmps70
    go_upto_region 1 with fail
    rw [HW2.out]
    go_wp2_with fail
    (with_reducible refine (Htw.out _ (Upd.refl _ _)).mono ?_)
    rintro _ w2 ⟨rfl, u2⟩
    have c0' := later_cell ⟨w2, u2⟩ c0
    have hat := Lib.hid (at_w _ T w2 (G1.out.upd u2) (Ht.out.nw u2) (T.length - 1) (by unfold I64; omega))
    clear c0
    go_wp2_with fail
    (with_reducible refine (hat.out).mono ?_)
    rintro _ w3 ⟨v3, rfl, o3, u3⟩
    have O3 := Lib.hid o3
    have hfin := Lib.hid (And.intro (N1.out.trans u2) u3)
    clear o3 u2 u3
    go_wp2_with fail
    go_ret
    rw [hf2.out]
    exact FindTo.of O3.out hfin.out.1 hfin.out.2
end
end Go.Proofs.YtagmlemlagbfkaaGreatDoor
namespace Go.Proofs.YtagmlemlagbfkaaGreatDoor
open Go.RowKit
set_option linter.unusedVariables false
set_option linter.unusedSimpArgs false
attribute [local irreducible] Calls

section
variable {B : Nat} {w : World} {x : MirR} {m : Mi.Mir}
set_option maxHeartbeats 1000000 in
set_option maxRecDepth 100000 in
theorem find_entry (h : MirAt B w x m) (g : Gl w) (q : Mi.Ques) (hq : QOk q) (h0 : q.kind = 1) :
    Calls Tryz.prog 70 #[.pointer (some ⟨x.mb, 0, none⟩), qV q] w (FindTo w (Mi.find m q)) := by
  have hgb := g.big
  have n1 := nw_alloc w (qObj q)
  have k1 := heap_new w (qObj q)
  obtain ⟨w1, hw1⟩ : ∃ w1, w.alloc (qObj q) = w1 := ⟨_, rfl⟩
  have HW1 : Hid (w.alloc (.cells #[.int .i64 q.kind, .int .i64 q.n, .string ⟨q.text.toArray⟩] tQue) = w1) := hw1
  rw [hw1] at n1 k1
  clear hw1
  have h1 := h.nw n1
  obtain ⟨c0, c1, c2, c3, -⟩ := h1.cells
  obtain ⟨q0, q1, q2⟩ := cell3 k1
  have K1 := Lib.hid k1
  have N1 := Lib.hid n1
  have H1 := Lib.hid h1
  clear k1 n1 h1
  obtain ⟨aH, cH, eH⟩ := own_slG (H1.out.sown 0 (by decide))
  have hs := SgnSl.of_own (H1.out.sown 0 (by decide))
  rw [eH] at hs c1
  have ht := hs.told m.mode
  obtain ⟨_, _, ev, hs1, hs2, hs3, -⟩ := hs
  simp only [Value.slice.injEq, true_and] at ev
  obtain ⟨rfl, rfl⟩ := ev
  have htw := fun (z : World) (u : Nw w1 z) => toldS_w x.mb m.mode aH _ _ _ (told_length m.mode (m.l 0)) z (later_cell ⟨z, u⟩ c0) hs1 hs2 hs3
  have Htw := Lib.hid (fun i : Later w1 => htw i.1 i.nw)
  have Ht := Lib.hid ht
  have hf : Hid (Mi.find m q = Mi.atL (Mi.told m.mode (m.l 0)) q.n) := by show _ = _; unfold Mi.find; rw [if_neg (by omega), if_pos h0]
  have G1 := Lib.hid (g.upd N1.out)
  have HQ := Lib.hid hq.n
  rw [h0] at q0
  have HW2 : Hid (w.alloc (.cells #[.int .i64 1, .int .i64 q.n, .string ⟨q.text.toArray⟩] tQue) = w1) := by rw [← h0]; exact HW1.out
  have l1 := fun i : Later w1 => later_cell i c1
  have l2 := fun i : Later w1 => later_cell i q1
  clear htw ht hs1 hs2 hs3 hq h
  generalize Mi.told m.mode (m.l 0) = T at *
  unfold qV
  rw [h0]
  clear h0 HW1
  go_enter Tryz.func70, Tryz.ntmps70
  go_upto_region 1 with fail
  rw [HW2.out]
  go_wp2_with fail
  refine wp_region_nw_tail 8 (by kernel_rfl) (by kernel_rfl) ?_
  simp only [List.take_succ_cons, List.take_zero, List.drop_succ_cons, List.drop_zero]
  repeat (go_big_quiet_step ((go_at_call 129; exact later_call (Htw.out _))))
  refine wpQuiet_nil ?_
  intro w2 u2
  replace u2 := later_out u2
  have hat := Lib.hid (at_w _ T w2 (G1.out.upd u2) (Ht.out.nw u2) q.n HQ.out)
  have U2 := Lib.hid (N1.out.trans u2)
  clear c0 u2
  go_wp2_with fail
  (with_reducible refine (hat.out).mono ?_)
  rintro _ w3 ⟨v3, rfl, o3, u3⟩
  have O3 := Lib.hid o3
  have U3 := Lib.hid u3
  clear o3 u3
  go_wp2_with fail
  go_ret
  rw [hf.out]
  exact FindTo.of O3.out U2.out U3.out
set_option maxHeartbeats 1000000 in
set_option maxRecDepth 100000 in
theorem find_other (h : MirAt B w x m) (g : Gl w) (q : Mi.Ques) (hq : QOk q) (h0 : q.kind ≠ 0) (h1 : q.kind ≠ 1) (h2 : q.kind ≠ 2) :
    Calls Tryz.prog 70 #[.pointer (some ⟨x.mb, 0, none⟩), qV q] w (FindTo w (Mi.find m q)) := by
  have hgb := g.big
  have n1 := nw_alloc w (qObj q)
  have k1 := heap_new w (qObj q)
  obtain ⟨w1, hw1⟩ : ∃ w1, w.alloc (qObj q) = w1 := ⟨_, rfl⟩
  have HW1 : Hid (w.alloc (.cells #[.int .i64 q.kind, .int .i64 q.n, .string ⟨q.text.toArray⟩] tQue) = w1) := hw1
  rw [hw1] at n1 k1
  clear hw1
  have h1 := h.nw n1
  obtain ⟨c0, c1, c2, c3, -⟩ := h1.cells
  obtain ⟨q0, q1, q2⟩ := cell3 k1
  have K1 := Lib.hid k1
  have N1 := Lib.hid n1
  have H1 := Lib.hid h1
  clear k1 n1 h1
  have hf : Hid (Mi.find m q = []) := by show _ = _; unfold Mi.find; rw [if_neg h0, if_neg h1, if_neg h2]
  have d0 : (q.kind == 0) = false := by simp [h0]
  have d1 : (q.kind == 1) = false := by simp [h1]
  have d2 : (q.kind == 2) = false := by simp [h2]
  clear h0 h1 h2 hq h c0 c1 c2 c3
  unfold qV
  go_enter Tryz.func70, Tryz.ntmps70
  go_upto_region 1 with fail
  rw [HW1.out]
  go_wp2_with fail
  go_ret
  exact ⟨_, rfl, by rw [hf.out]; exact ⟨rfl, Or.inl ⟨rfl, rfl⟩⟩, N1.out⟩
set_option maxHeartbeats 1000000 in
set_option maxRecDepth 100000 in
theorem find_absent (h : MirAt B w x m) (g : Gl w) (q : Mi.Ques) (hq : QOk q) (h0 : q.kind = 2) :
    Calls Tryz.prog 70 #[.pointer (some ⟨x.mb, 0, none⟩), qV q] w (FindTo w (Mi.find m q)) := by
  have hgb := g.big
  have n1 := nw_alloc w (qObj q)
  have k1 := heap_new w (qObj q)
  obtain ⟨w1, hw1⟩ : ∃ w1, w.alloc (qObj q) = w1 := ⟨_, rfl⟩
  have HW1 : Hid (w.alloc (.cells #[.int .i64 q.kind, .int .i64 q.n, .string ⟨q.text.toArray⟩] tQue) = w1) := hw1
  rw [hw1] at n1 k1
  clear hw1
  have h1 := h.nw n1
  obtain ⟨c0, c1, c2, c3, -⟩ := h1.cells
  obtain ⟨q0, q1, q2⟩ := cell3 k1
  have K1 := Lib.hid k1
  have N1 := Lib.hid n1
  have H1 := Lib.hid h1
  clear k1 n1 h1
  obtain ⟨aH, cH, eH⟩ := own_slG (H1.out.sown 2 (by decide))
  have hs := SgnSl.of_own (H1.out.sown 2 (by decide))
  rw [eH] at hs c3
  have ht := hs.told m.mode
  obtain ⟨_, _, ev, hs1, hs2, hs3, -⟩ := hs
  simp only [Value.slice.injEq, true_and] at ev
  obtain ⟨rfl, rfl⟩ := ev
  have htw := fun (z : World) (u : Nw w1 z) => toldS_w x.mb m.mode aH _ _ _ (told_length m.mode (m.l 2)) z (later_cell ⟨z, u⟩ c0) hs1 hs2 hs3
  have Htw := Lib.hid htw
  have Ht := Lib.hid ht
  have hle : (Mi.told m.mode (m.l 2)).length ≤ 1000000 := Nat.le_trans (Mi.told_len _ _) (H1.out.len.1 2 (by decide))
  have hle1 : ((Mi.told m.mode (m.l 2)).length : Int) ≤ 1000000 := by omega
  have hle0 : (0 : Int) ≤ ((Mi.told m.mode (m.l 2)).length : Int) := by omega
  have hoks : Hid (∀ s ∈ Mi.told m.mode (m.l 2), SmS s) := fun s hs => H1.out.oks 2 (by decide) s (Mi.told_mem hs)
  have hf : Hid (Mi.find m q = ((Mi.told m.mode (m.l 2)).reverse.find? (Mi.good q)).toList) := by show _ = _; unfold Mi.find; rw [if_neg (by omega), if_neg (by omega), if_pos h0]
  have G1 := Lib.hid (g.upd N1.out)
  have HQ := Lib.hid hq
  rw [h0] at q0
  have HW2 : Hid (w.alloc (.cells #[.int .i64 2, .int .i64 q.n, .string ⟨q.text.toArray⟩] tQue) = w1) := by rw [← h0]; exact HW1.out
  clear htw ht hs1 hs2 hs3 hq h hle c1 c2
  generalize Mi.told m.mode (m.l 2) = T at *
  unfold qV
  rw [h0]
  clear h0 HW1
  go_enter Tryz.func70, Tryz.ntmps70
  go_upto_region 1 with fail
  rw [HW2.out]
  go_wp2_with fail
  (with_reducible refine (Htw.out _ (Upd.refl _ _)).mono ?_)
  rintro _ w2 ⟨rfl, u2⟩
  have U2 := Lib.hid u2
  have hK0 : Hid ((∀ s ∈ T.drop T.length, Mi.good q s = false) ∧ Nw w1 w2) := ⟨fun s hs => by simp at hs, u2⟩
  clear u2 c0 c3 q0 q1 q2
  go_wp2_with fail
  go_loopw [7] (fun iv wr => ∃ k : Nat, k ≤ T.length ∧ iv = .int .i64 ((k : Int) - 1) ∧ Hid ((∀ s ∈ T.drop k, Mi.good q s = false) ∧ Nw w1 wr)) (fun iv _ => (intOf iv + 1).toNat)
  case atStart => exact ⟨T.length, Nat.le_refl _, rfl, hK0.out⟩
  case round =>
    obtain ⟨k, hk, rfl, HK⟩ := hrel
    cases k with
    | zero =>
      have hr : Hid (Mi.find m q = []) := by show _ = _; rw [hf.out, Mi.find_none (by have := HK.out.1; rw [List.drop_zero] at this; exact this)]; rfl
      have hd : decide ((0 : Int) ≤ ((0 : Nat) : Int) - 1) = false := by decide
      go_wp2_with fail
      go_ret
      exact ⟨_, rfl, by rw [hr.out]; exact ⟨rfl, Or.inl ⟨rfl, rfl⟩⟩, N1.out.trans HK.out.2⟩
    | succ i =>
      have hi : i < T.length := hk
      have hiI : (i : Int) < T.length := by omega
      have e1 : (((i + 1 : Nat) : Int) - 1) = (i : Int) := by omega
      rw [e1]
      obtain ⟨a', cap', ev, _, _, _, hc⟩ := Ht.out.nw HK.out.2
      simp only [Value.slice.injEq, true_and] at ev
      obtain ⟨rfl, rfl⟩ := ev
      rcases hc with hc | ⟨b, off, rfl, hc⟩
      · rw [hc] at hi; simp at hi
      obtain ⟨d0, d1, d2⟩ := hc i hi
      have hso := hoks.out _ (List.getElem_mem hi)
      have hgd : Hid (Mi.good q T[i] = true → Mi.find m q = Mi.atL T i) := fun e => by rw [hf.out, find_some hi e HK.out.1]
      have hbd : Hid (Mi.good q T[i] = false → ∀ s ∈ T.drop i, Mi.good q s = false) := fun e s hs => by
        rw [List.drop_eq_getElem_cons hi] at hs
        rcases List.mem_cons.1 hs with rfl | hs
        · exact e
        · exact HK.out.1 s hs
      have hrd := read_c ⟨T[i].text.toArray⟩ T[i].text (bs_list _) (Nat.le_trans hso.t (by decide)) wr (G1.out.upd HK.out.2)
      have hri := read_i64 T[i].text
      have hge : Hid (Mi.good q T[i] = ((Cl.read T[i].text).2 && decide ((Cl.read T[i].text).1.text = q.text) && decide (q.n ≤ (Cl.read T[i].text).1.n))) := by show _ = _; rfl
      have HNr := Lib.hid HK.out.2
      have Hat := Lib.hid (fun (z : World) (u : Nw wr z) => at_w _ T z (G1.out.upd (HK.out.2.trans u)) (Ht.out.nw (HK.out.2.trans u)) i (by unfold I64; omega))
      clear hc hso HK
      generalize Mi.good q T[i] = gd at *
      generalize Cl.read T[i].text = r1 at *
      obtain ⟨c1, o1⟩ := r1
      unfold clmV errV at hrd
      dsimp only at hrd hge hri
      have HR := Lib.hid hrd
      have HRI := Lib.hid hri
      clear hrd hri
      generalize T[i] = s at *
      go_wp2_with fail
      (with_reducible refine (HR.out).mono ?_)
      rintro _ w3 ⟨rfl, u3⟩
      have u4 := (HNr.out.trans u3).alloc (.cells #[.int .i64 c1.kind, .int .i64 c1.n, .int .i64 c1.time, .string ⟨c1.text.toArray⟩] tC)
      have uw := u3.alloc (.cells #[.int .i64 c1.kind, .int .i64 c1.n, .int .i64 c1.time, .string ⟨c1.text.toArray⟩] tC)
      have k4 := heap_new w3 (.cells #[.int .i64 c1.kind, .int .i64 c1.n, .int .i64 c1.time, .string ⟨c1.text.toArray⟩] tC)
      obtain ⟨_, _, _, _⟩ := cell4 k4
      obtain ⟨_, _, _⟩ := cell3 (Nw.keep u4 K1.out)
      have UW := Lib.hid uw
      have U4 := Lib.hid u4
      clear k4 u4 uw u3 HR
      cases o1 with
      | false =>
        have hz : Hid ((∀ s ∈ T.drop i, Mi.good q s = false) ∧ Nw w1 (w3.alloc (.cells #[.int .i64 c1.kind, .int .i64 c1.n, .int .i64 c1.time, .string ⟨c1.text.toArray⟩] tC))) := ⟨hbd.out (by rw [hge.out]; rfl), U4.out⟩
        clear hge hbd hgd
        go_wp2_with fail
        go_roundw
        case rel => exact ⟨i, by omega, by go_num, hz.out⟩
        case measure => simp [intOf] <;> omega
      | true =>
        by_cases ht : c1.text = q.text
        rotate_left
        · have hz : Hid ((∀ s ∈ T.drop i, Mi.good q s = false) ∧ Nw w1 (w3.alloc (.cells #[.int .i64 c1.kind, .int .i64 c1.n, .int .i64 c1.time, .string ⟨c1.text.toArray⟩] tC))) := ⟨hbd.out (by rw [hge.out]; simp [ht]), U4.out⟩
          have hb1 : (c1.text == q.text) = false := by simp [ht]
          clear hge hbd hgd ht
          go_wp2_with fail
          go_roundw
          case rel => exact ⟨i, by omega, by go_num, hz.out⟩
          case measure => simp [intOf] <;> omega
        have hb1 : (c1.text == q.text) = true := by simp [ht]
        by_cases hn : q.n ≤ c1.n
        rotate_left
        · have hz : Hid ((∀ s ∈ T.drop i, Mi.good q s = false) ∧ Nw w1 (w3.alloc (.cells #[.int .i64 c1.kind, .int .i64 c1.n, .int .i64 c1.time, .string ⟨c1.text.toArray⟩] tC))) := ⟨hbd.out (by rw [hge.out]; simp [hn]), U4.out⟩
          have hb2 : decide (q.n ≤ c1.n) = false := decide_eq_false hn
          clear hge hbd hgd ht hn
          go_wp2_with fail
          go_roundw
          case rel => exact ⟨i, by omega, by go_num, hz.out⟩
          case measure => simp [intOf] <;> omega
        · have hb2 : decide (q.n ≤ c1.n) = true := decide_eq_true hn
          have hr : Hid (Mi.find m q = Mi.atL T i) := by show _ = _; exact hgd.out (by rw [hge.out]; simp [ht, hn])
          clear hge hbd hgd ht hn
          go_wp2_with fail
          (with_reducible refine (Hat.out _ UW.out).mono ?_)
          rintro _ w5 ⟨v5, rfl, o5, u5⟩
          have O5 := Lib.hid o5
          have U5 := Lib.hid u5
          clear o5 u5
          go_wp2_with fail
          go_ret
          rw [hr.out]
          exact FindTo.of O5.out (N1.out.trans U4.out) U5.out
theorem find_w (h : MirAt B w x m) (g : Gl w) (q : Mi.Ques) (hq : QOk q) : Calls Tryz.prog 70 #[.pointer (some ⟨x.mb, 0, none⟩), qV q] w (FindTo w (Mi.find m q)) := by
  by_cases h0 : q.kind = 0
  · exact find_head h g q hq h0
  by_cases h1 : q.kind = 1
  · exact find_entry h g q hq h1
  by_cases h2 : q.kind = 2
  · exact find_absent h g q hq h2
  · exact find_other h g q hq h0 h1 h2
end
end Go.Proofs.YtagmlemlagbfkaaGreatDoor
