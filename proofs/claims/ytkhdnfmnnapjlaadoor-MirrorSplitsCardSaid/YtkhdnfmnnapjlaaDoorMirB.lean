/- The contracts of the mirror's New, Size, told, at, find, and of content's Text. -/
import Derived.Test.YtkhdnfmnnapjlaaDoorMirS
namespace Go.Proofs.YtkhdnfmnnapjlaaDoor
open Go.RowKit
set_option linter.unusedVariables false
set_option linter.unusedSimpArgs false
attribute [local irreducible] Calls

theorem infoStrM : (Tryd.prog.info? tStrM).map (fun i => (i.zero, i.size, i.bytes)) = some (some (.string ⟨#[]⟩), 1, 16) := by kernel_rfl
theorem bsM_one (l : List (List UInt8)) : ∀ u ∈ l.map bsM, u.oneCell' = true := by
  intro u hu
  obtain ⟨x, _, rfl⟩ := List.mem_map.1 hu
  rfl
theorem mir_fresh (w : World) (hg : nG ≤ w.heap.size) (mode : Int) (hm : 0 ≤ mode ∧ mode < 5) {w' : World} (hb : w'.heap[w.heap.size]? = some (.cells #[.int .i64 mode, .slice none 0 0, .slice none 0 0, .slice none 0 0, .slice none 0 0] tMir (0, 0))) :
    MirAt w.heap.size w' ⟨w.heap.size, fun _ => .slice none 0 0, .slice none 0 0⟩ (Mi.fresh mode) :=
  ⟨hg, Nat.le_refl _, hb, fun i hi => ⟨rfl, Or.inl ⟨rfl, rfl⟩⟩, ⟨rfl, Or.inl ⟨rfl, rfl⟩⟩, fun i k hi hk hik j hj => (by cases hj), ⟨fun i hi => Nat.zero_le _, Nat.zero_le _⟩, hm, fun i hi s hs => (by cases hs), fun s hs => (by cases hs)⟩
set_option maxRecDepth 100000 in
theorem mnew_w (mode : Int) (hi : I64 mode) (w : World) (g : Gl w) : Calls Tryd.prog 16 #[.int .i64 mode] w fun e w' =>
    (0 ≤ mode ∧ mode < 5 ∧ ∃ x : MirR, e = .returned (.pointer (some ⟨x.mb, 0, none⟩)) ∧ MirAt w.heap.size w' x (Mi.fresh mode) ∧ Nw w w') ∨ (¬ (0 ≤ mode ∧ mode < 5) ∧ e = .returned (.pointer none) ∧ Nw w w') := by
  have hgb := g.big
  by_cases h0 : mode < 0
  · have hd : decide (mode < 0) = true := decide_eq_true h0
    have hr : Hid (¬ (0 ≤ mode ∧ mode < 5)) := fun h => by omega
    clear h0
    go_enter Tryd.func16, Tryd.ntmps16
    go_wp2_with fail
    go_ret
    exact Or.inr ⟨hr.out, rfl, Upd.refl _ _⟩
  have hd : decide (mode < 0) = false := decide_eq_false h0
  by_cases h1 : 5 ≤ mode
  · have hd1 : decide (5 ≤ mode) = true := decide_eq_true h1
    have hr : Hid (¬ (0 ≤ mode ∧ mode < 5)) := fun h => by omega
    clear h0 h1
    go_enter Tryd.func16, Tryd.ntmps16
    go_wp2_with fail
    go_ret
    exact Or.inr ⟨hr.out, rfl, Upd.refl _ _⟩
  have hd1 : decide (5 ≤ mode) = false := decide_eq_false h1
  have hr : Hid (0 ≤ mode ∧ mode < 5) := ⟨by omega, by omega⟩
  clear h0 h1
  have HM := Lib.hid (mir_fresh w hgb mode hr.out (heap_new w (.cells #[.int .i64 mode, .slice none 0 0, .slice none 0 0, .slice none 0 0, .slice none 0 0] tMir)))
  go_enter Tryd.func16, Tryd.ntmps16
  go_wp2_with fail
  go_ret
  exact Or.inl ⟨hr.out.1, hr.out.2, _, rfl, HM.out, nw_alloc w _⟩
theorem size_results (tmps : Array Value) (w : World) : (results Tryd.f60 tmps).run Tryd.prog w = .ok (.tuple #[tmps.getD 2 undef, tmps.getD 3 undef, tmps.getD 4 undef, tmps.getD 5 undef]) w := by
  simp [results, Tryd.results60, go_sem]
section
variable {B : Nat} {w : World} {x : MirR} {m : Mi.Mir}
theorem mir_slices (h : MirAt B w x m) : (∃ a c, x.sv 0 = .slice a (m.l 0).length c) ∧ (∃ a c, x.sv 1 = .slice a (m.l 1).length c) ∧ (∃ a c, x.sv 2 = .slice a (m.l 2).length c) ∧ ∃ a c, x.cv = .slice a m.cs.length c :=
  ⟨own_slG (h.sown 0 (by decide)), own_slG (h.sown 1 (by decide)), own_slG (h.sown 2 (by decide)), own_slG h.cown⟩
set_option maxRecDepth 100000 in
theorem msize_w (h : MirAt B w x m) : Calls Tryd.prog 60 #[.pointer (some ⟨x.mb, 0, none⟩)] w fun e w' => e = .returned (.tuple #[.int .i64 (m.l 0).length, .int .i64 (m.l 1).length, .int .i64 (m.l 2).length, .int .i64 m.cs.length]) ∧ Nw w w' := by
  obtain ⟨_, c1, c2, c3, c4⟩ := h.cells
  obtain ⟨⟨_, _, e0⟩, ⟨_, _, e1⟩, ⟨_, _, e2⟩, ⟨_, _, e3⟩⟩ := mir_slices h
  rw [e0] at c1
  rw [e1] at c2
  rw [e2] at c3
  rw [e3] at c4
  have l1 := fun i : Later w => later_cell i c1
  have l2 := fun i : Later w => later_cell i c2
  have l3 := fun i : Later w => later_cell i c3
  have l4 := fun i : Later w => later_cell i c4
  clear h
  go_enter Tryd.func60, Tryd.ntmps60
  go_wp2_with fail
  refine wp_region_nw (by kernel_rfl) (by kernel_rfl) ?_
  repeat (go_big_quiet_step ((fail)))
  refine wpQuiet_nil ?_
  intro w1 u1
  replace u1 := later_out u1
  go_wp2_with fail
  (try simp only [Exit.inBlock, Exit.then])
  refine bodyPost_ret (size_results _ _) rfl ?_
  exact ⟨rfl, u1⟩
end
/-! ### A slice of signatures, or the beginning of one -/
def SgnSl (w : World) (v : Value) (L : List Bk.Sgn) : Prop := ∃ a cap, v = .slice a L.length cap ∧ L.length ≤ cap ∧ cap ≤ maxLen ∧ (a = none ∨ ∃ b off, a = some ⟨b, off, none⟩) ∧
  (L = [] ∨ ∃ b off, a = some ⟨b, off, none⟩ ∧ ∀ i (h : i < L.length), w.cell? ⟨b, off + i * 3, none⟩ = some (.int .i64 L[i].key) ∧ w.cell? ⟨b, off + i * 3 + 1, none⟩ = some (.string ⟨L[i].text.toArray⟩) ∧ w.cell? ⟨b, off + i * 3 + 2, none⟩ = some (.int .i64 L[i].mark))
theorem SgnSl.of_own {B : Nat} {w : World} {v : Value} {L : List Bk.Sgn} (h : w.ownsRow B tSigned 3 v L.length (flatS L)) : SgnSl w v L := by
  obtain ⟨a, cap, rfl, hm, hc⟩ := sgn_cells (sgn_sls h)
  refine ⟨a, cap, rfl, ?_, ?_, ?_, ?_⟩
  · rcases h.2 with ⟨h1, h2⟩ | ⟨g, cap', cur, h1, _, _, h2, h3, _⟩
    · rw [h2]; exact Nat.zero_le _
    · simp only [Value.slice.injEq, true_and] at h1
      rw [h1.2]; exact h2
  · rcases h.2 with ⟨h1, h2⟩ | ⟨g, cap', cur, h1, _, _, h2, h3, _⟩
    · simp only [Value.slice.injEq] at h1
      rw [h1.2.2]; exact Nat.zero_le _
    · simp only [Value.slice.injEq, true_and] at h1
      rw [h1.2]; exact h3
  · rcases h.2 with ⟨h1, h2⟩ | ⟨g, cap', cur, h1, _⟩
    · simp only [Value.slice.injEq] at h1
      exact Or.inl h1.1
    · simp only [Value.slice.injEq, true_and] at h1
      exact Or.inr ⟨_, _, h1.1⟩
  · rcases hc with hc | ⟨b, off, e, _, _, hc⟩
    · exact Or.inl hc
    · exact Or.inr ⟨b, off, e, hc⟩
theorem SgnSl.nw {w w' : World} {v : Value} {L : List Bk.Sgn} (h : SgnSl w v L) (u : Nw w w') : SgnSl w' v L := by
  obtain ⟨a, cap, rfl, h1, h2, h3, h4⟩ := h
  refine ⟨a, cap, rfl, h1, h2, h3, h4.imp id ?_⟩
  rintro ⟨b, off, e, hc⟩
  refine ⟨b, off, e, fun i hi => ?_⟩
  obtain ⟨k1, k2, k3⟩ := hc i hi
  exact ⟨later_cell ⟨w', u⟩ k1, later_cell ⟨w', u⟩ k2, later_cell ⟨w', u⟩ k3⟩
theorem told_length {α : Type} (mode : Int) (l : List α) : (Mi.told mode l).length = if mode = 2 then l.length / 2 else l.length := by
  unfold Mi.told
  split
  · rw [List.length_take]; omega
  · rfl
theorem SgnSl.told {w : World} {a : Option Addr} {cap : Nat} {L : List Bk.Sgn} (h : SgnSl w (.slice a L.length cap) L) (mode : Int) : SgnSl w (.slice a (Mi.told mode L).length cap) (Mi.told mode L) := by
  obtain ⟨a', cap', e, h1, h2, h3, h4⟩ := h
  simp only [Value.slice.injEq, true_and] at e
  obtain ⟨rfl, rfl⟩ := e
  have hl := Mi.told_len mode L
  refine ⟨a, cap, rfl, by omega, h2, h3, ?_⟩
  rcases h4 with rfl | ⟨b, off, e, hc⟩
  · left
    unfold Mi.told
    split <;> rfl
  · refine Or.inr ⟨b, off, e, fun i hi => ?_⟩
    have hi2 : i < L.length := by omega
    have e2 : (Mi.told mode L)[i] = L[i] := by
      unfold Mi.told
      split
      · exact List.getElem_take
      · rfl
    rw [e2]
    exact hc i hi2
set_option maxRecDepth 100000 in
theorem toldS_w (mb : Nat) (mode : Int) (a : Option Addr) (n cap k : Nat) (hk : k = if mode = 2 then n / 2 else n) (w : World) (hc : w.cell? ⟨mb, 0, none⟩ = some (.int .i64 mode)) (hn : n ≤ cap) (hcap : cap ≤ maxLen) (ha : a = none ∨ ∃ b off, a = some ⟨b, off, none⟩) :
    Calls Tryd.prog 61 #[.pointer (some ⟨mb, 0, none⟩), .slice a n cap] w fun e w' => e = .returned (.slice a k cap) ∧ Nw w w' := by
  unfold maxLen at hcap
  by_cases hm : mode = 2
  · rw [if_pos hm] at hk
    have hd : (mode == 2) = true := by simp [hm]
    have h2 : ((n / 2 : Nat) : Int) ≤ cap := by omega
    subst hk
    clear ha hm
    go_enter Tryd.func61, Tryd.ntmps61
    go_wp2_with fail
    go_ret
    exact ⟨rfl, Upd.refl _ _⟩
  · rw [if_neg hm] at hk
    have hd : (mode == 2) = false := by simp [hm]
    subst hk
    clear hm ha
    go_enter Tryd.func61, Tryd.ntmps61
    go_wp2_with fail
    go_ret
    exact ⟨rfl, Upd.refl _ _⟩
set_option maxRecDepth 100000 in
theorem toldT_w (mb : Nat) (mode : Int) (a : Option Addr) (n cap k : Nat) (hk : k = if mode = 2 then n / 2 else n) (w : World) (hc : w.cell? ⟨mb, 0, none⟩ = some (.int .i64 mode)) (hn : n ≤ cap) (hcap : cap ≤ maxLen) (ha : a = none ∨ ∃ b off, a = some ⟨b, off, none⟩) :
    Calls Tryd.prog 43 #[.pointer (some ⟨mb, 0, none⟩), .slice a n cap] w fun e w' => e = .returned (.slice a k cap) ∧ Nw w w' := by
  unfold maxLen at hcap
  by_cases hm : mode = 2
  · rw [if_pos hm] at hk
    have hd : (mode == 2) = true := by simp [hm]
    have h2 : ((n / 2 : Nat) : Int) ≤ cap := by omega
    subst hk
    clear ha hm
    go_enter Tryd.func43, Tryd.ntmps43
    go_wp2_with fail
    go_ret
    exact ⟨rfl, Upd.refl _ _⟩
  · rw [if_neg hm] at hk
    have hd : (mode == 2) = false := by simp [hm]
    subst hk
    clear hm ha
    go_enter Tryd.func43, Tryd.ntmps43
    go_wp2_with fail
    go_ret
    exact ⟨rfl, Upd.refl _ _⟩
set_option maxRecDepth 100000 in
theorem at_w (v : Value) (L : List Bk.Sgn) (w : World) (g : Gl w) (hv : SgnSl w v L) (i : Int) (hi : I64 i) :
    Calls Tryd.prog 62 #[v, .int .i64 i] w fun e w' => ∃ v', e = .returned v' ∧ w'.ownsRow w.heap.size tSigned 3 v' (Mi.atL L i).length (flatS (Mi.atL L i)) ∧ Nw w w' := by
  have hgb := g.big
  obtain ⟨a, cap, rfl, h1, h2, h3, h4⟩ := hv
  have hl1 : (L.length : Int) ≤ 9223372036854775807 := by unfold maxLen at h2; omega
  by_cases h0 : i < 0
  · have hd : decide (i < 0) = true := decide_eq_true h0
    have hr : Hid (Mi.atL L i = []) := by show _ = _; exact Mi.atL_out (Or.inl h0)
    clear h0 h1 h2 h3 h4
    go_enter Tryd.func62, Tryd.ntmps62
    go_wp2_with fail
    go_ret
    exact ⟨_, rfl, by rw [hr.out]; exact ⟨rfl, Or.inl ⟨rfl, rfl⟩⟩, Upd.refl _ _⟩
  have hd : decide (i < 0) = false := decide_eq_false h0
  by_cases h5 : (L.length : Int) ≤ i
  · have hd5 : decide ((L.length : Int) ≤ i) = true := decide_eq_true h5
    have hr : Hid (Mi.atL L i = []) := by show _ = _; exact Mi.atL_out (Or.inr h5)
    clear h0 h1 h2 h3 h4 h5
    go_enter Tryd.func62, Tryd.ntmps62
    go_wp2_with fail
    go_ret
    exact ⟨_, rfl, by rw [hr.out]; exact ⟨rfl, Or.inl ⟨rfl, rfl⟩⟩, Upd.refl _ _⟩
  have hd5 : decide ((L.length : Int) ≤ i) = false := decide_eq_false h5
  obtain ⟨n, rfl⟩ : ∃ n : Nat, i = n := ⟨i.toNat, by omega⟩
  have hn : n < L.length := by omega
  have hn1 : (n : Int) < L.length := by omega
  rcases h4 with rfl | ⟨b, off, rfl, hc⟩
  · simp at hn
  obtain ⟨c0, c1, c2⟩ := hc n hn
  have hr : Hid (Mi.atL L n = [L[n]]) := by show _ = _; exact Mi.atL_get hn
  have ho : Hid ((w.alloc (.cells (sgl L[n]).toArray tSigned)).ownsRow w.heap.size tSigned 3 (.slice (some ⟨w.heap.size, 0, none⟩) 1 1) 1 (flatS [L[n]])) := by
    refine ⟨by simp [flatS, sgl], Or.inr ⟨_, _, _, rfl, Nat.le_refl _, heap_new w _, Nat.le_refl _, by unfold maxLen; decide, by simp [sgl], ?_⟩⟩
    simp [flatS, sgl]
  clear h0 h5 h1 h2 h3 hc
  generalize L[n] = s at *
  go_enter Tryd.func62, Tryd.ntmps62
  go_wp2_with fail
  go_ret
  exact ⟨_, rfl, by rw [hr.out]; exact ho.out, nw_alloc w _⟩
/-! ### content.Text -/
set_option maxRecDepth 100000 in
theorem ctext_w (lo hi : Nat) (v : Value) (l : List (List UInt8)) (w : World) (hv : Sl lo hi w v (l.map bsM)) (i : Int) (hi2 : I64 i) :
    Calls Tryd.prog 42 #[v, .int .i64 i] w fun e w' => e = .returned (.tuple #[.string ⟨(Mi.textC l i).1.toArray⟩, .bool (Mi.textC l i).2]) ∧ Nw w w' := by
  obtain ⟨a, cap, rfl, hm, hc⟩ := hv.open_
  rw [List.length_map] at hm hc ⊢
  have hl1 : (l.length : Int) ≤ 9223372036854775807 := by unfold maxLen at hm; omega
  by_cases h0 : i < 0
  · have hd : decide (i < 0) = true := decide_eq_true h0
    have hr : Hid (Mi.textC l i = ([], false)) := by show _ = _; unfold Mi.textC; rw [if_pos (Or.inl h0)]
    clear h0 hc hv
    go_enter Tryd.func42, Tryd.ntmps42
    go_wp2_with fail
    go_ret2
    exact ⟨by rw [hr.out]; rfl, Upd.refl _ _⟩
  have hd : decide (i < 0) = false := decide_eq_false h0
  by_cases h5 : (l.length : Int) ≤ i
  · have hd5 : decide ((l.length : Int) ≤ i) = true := decide_eq_true h5
    have hr : Hid (Mi.textC l i = ([], false)) := by show _ = _; unfold Mi.textC; rw [if_pos (Or.inr h5)]
    clear h0 h5 hc hv
    go_enter Tryd.func42, Tryd.ntmps42
    go_wp2_with fail
    go_ret2
    exact ⟨by rw [hr.out]; rfl, Upd.refl _ _⟩
  have hd5 : decide ((l.length : Int) ≤ i) = false := decide_eq_false h5
  obtain ⟨n, rfl⟩ : ∃ n : Nat, i = n := ⟨i.toNat, by omega⟩
  have hn : n < l.length := by omega
  have hn1 : (n : Int) < l.length := by omega
  have hr : Hid (Mi.textC l n = (l[n], true)) := by
    show _ = _; unfold Mi.textC
    rw [if_neg (by omega), Int.toNat_natCast, List.getD_eq_getElem?_getD, List.getElem?_eq_getElem hn]; rfl
  rcases hc with ⟨_, _, hnil⟩ | ⟨b, off, rfl, _, _, _, hc⟩
  · rw [List.map_eq_nil_iff] at hnil
    rw [hnil] at hn; simp at hn
  have c0 := hc n hn
  rw [List.getElem?_map, List.getElem?_eq_getElem hn] at c0
  have c1 : w.cell? ⟨b, off + n, none⟩ = some (.string ⟨(l[n]).toArray⟩) := c0
  clear h0 h5 hc c0 hv
  go_enter Tryd.func42, Tryd.ntmps42
  go_wp2_with fail
  go_ret2
  exact ⟨by rw [hr.out]; rfl, Upd.refl _ _⟩
/-! ### find -/
abbrev tQue : TypeId := 57
abbrev qV (q : Mi.Ques) : Value := .agg #[.int .i64 q.kind, .int .i64 q.n, .string ⟨q.text.toArray⟩]
abbrev qObj (q : Mi.Ques) : Obj := .cells #[.int .i64 q.kind, .int .i64 q.n, .string ⟨q.text.toArray⟩] tQue
structure QOk (q : Mi.Ques) : Prop where
  kind : I64 q.kind
  n : I64 q.n
  t : q.text.length ≤ 1000000
/-- What find returns. -/
def FindTo (w : World) (l : List Bk.Sgn) (e : Ending) (w' : World) : Prop := ∃ v', e = .returned v' ∧ w'.ownsRow w.heap.size tSigned 3 v' l.length (flatS l) ∧ Nw w w'
theorem FindTo.of {w w1 w' : World} {l : List Bk.Sgn} {v' : Value} (ho : w'.ownsRow w1.heap.size tSigned 3 v' l.length (flatS l)) (u1 : Nw w w1) (u2 : Nw w1 w') : FindTo w l (.returned v') w' :=
  ⟨v', rfl, owns_base ho u1.size, u1.trans u2⟩
theorem find_some {l : List Bk.Sgn} {p : Bk.Sgn → Bool} {i : Nat} (h : i < l.length) (hp : p l[i] = true) (hn : ∀ x ∈ l.drop (i + 1), p x = false) : (l.reverse.find? p).toList = Mi.atL l i := by
  rw [Mi.find_last h hp hn, Mi.atL_get h]
  rfl
section
variable {B : Nat} {w : World} {x : MirR} {m : Mi.Mir}
set_option maxHeartbeats 1000000 in
set_option maxRecDepth 100000 in
theorem find_head (h : MirAt B w x m) (g : Gl w) (q : Mi.Ques) (hq : QOk q) (h0 : q.kind = 0) :
    Calls Tryd.prog 41 #[.pointer (some ⟨x.mb, 0, none⟩), qV q] w (FindTo w (Mi.find m q)) := by
  have hgb := g.big
  have n1 := nw_alloc w (qObj q)
  have k1 := heap_new w (qObj q)
  obtain ⟨w1, hw1⟩ : ∃ w1, w.alloc (qObj q) = w1 := ⟨_, rfl⟩
  have HW1 : Hid (w.alloc (.cells #[.int .i64 q.kind, .int .i64 q.n, .string ⟨q.text.toArray⟩] tQue) = w1) := hw1
  rw [hw1] at n1 k1
  clear hw1
  have h1 := h.nw n1
  obtain ⟨c0, c1, c2, c3, -⟩ := h1.cells
  obtain ⟨q0, q1, q2⟩ := cell3 k1
  have K1 := Lib.hid k1
  have N1 := Lib.hid n1
  have H1 := Lib.hid h1
  clear k1 n1 h1
  obtain ⟨aH, cH, eH⟩ := own_slG (H1.out.sown 1 (by decide))
  have hs := SgnSl.of_own (H1.out.sown 1 (by decide))
  rw [eH] at hs c2
  have ht := hs.told m.mode
  obtain ⟨_, _, ev, hs1, hs2, hs3, -⟩ := hs
  simp only [Value.slice.injEq, true_and] at ev
  obtain ⟨rfl, rfl⟩ := ev
  have htw := fun (z : World) (u : Nw w1 z) => toldS_w x.mb m.mode aH _ _ _ (told_length m.mode (m.l 1)) z (later_cell ⟨z, u⟩ c0) hs1 hs2 hs3
  have Htw := Lib.hid htw
  have Ht := Lib.hid ht
  have hle : (Mi.told m.mode (m.l 1)).length ≤ 1000000 := Nat.le_trans (Mi.told_len _ _) (H1.out.len.1 1 (by decide))
  have hle1 : ((Mi.told m.mode (m.l 1)).length : Int) ≤ 1000000 := by omega
  have hle0 : (0 : Int) ≤ ((Mi.told m.mode (m.l 1)).length : Int) := by omega
  have hf : Hid (Mi.find m q = if m.mode = 3 then Mi.atL (Mi.told m.mode (m.l 1)) 0 else Mi.atL (Mi.told m.mode (m.l 1)) ((Mi.told m.mode (m.l 1)).length - 1)) := by show _ = _; unfold Mi.find; rw [if_pos h0]
  have G1 := Lib.hid (g.upd N1.out)
  rw [h0] at q0
  have HW2 : Hid (w.alloc (.cells #[.int .i64 0, .int .i64 q.n, .string ⟨q.text.toArray⟩] tQue) = w1) := by rw [← h0]; exact HW1.out
  clear htw ht hs1 hs2 hs3 hle hq h
  generalize Mi.told m.mode (m.l 1) = T at *
  unfold qV
  rw [h0]
  clear h0 HW1
  by_cases h3 : m.mode = 3
  · have hd3 : (m.mode == 3) = true := by simp [h3]
    have hf2 : Hid (Mi.find m q = Mi.atL T 0) := by show _ = _; rw [hf.out, if_pos h3]
    clear h3 hf
    go_enter Tryd.func41, Tryd.ntmps41
    go_upto_region 1 with fail
    rw [HW2.out]
    go_wp2_with fail
    (with_reducible refine (Htw.out _ (Upd.refl _ _)).mono ?_)
    rintro _ w2 ⟨rfl, u2⟩
    have c0' := later_cell ⟨w2, u2⟩ c0
    have hat := Lib.hid (at_w _ T w2 (G1.out.upd u2) (Ht.out.nw u2) 0 (by unfold I64; omega))
    clear c0
    go_wp2_with fail
    (with_reducible refine (hat.out).mono ?_)
    rintro _ w3 ⟨v3, rfl, o3, u3⟩
    have O3 := Lib.hid o3
    have hfin := Lib.hid (And.intro (N1.out.trans u2) u3)
    clear o3 u2 u3
    go_wp2_with fail
    go_ret
    rw [hf2.out]
    exact FindTo.of O3.out hfin.out.1 hfin.out.2
  · have hd3 : (m.mode == 3) = false := by simp [h3]
    have hf2 : Hid (Mi.find m q = Mi.atL T (T.length - 1)) := by show _ = _; rw [hf.out, if_neg h3]
    clear h3 hf
    go_enter Tryd.func41, Tryd.ntmps41
    go_upto_region 1 with fail
    rw [HW2.out]
    go_wp2_with fail
    (with_reducible refine (Htw.out _ (Upd.refl _ _)).mono ?_)
    rintro _ w2 ⟨rfl, u2⟩
    have c0' := later_cell ⟨w2, u2⟩ c0
    have hat := Lib.hid (at_w _ T w2 (G1.out.upd u2) (Ht.out.nw u2) (T.length - 1) (by unfold I64; omega))
    clear c0
    go_wp2_with fail
    (with_reducible refine (hat.out).mono ?_)
    rintro _ w3 ⟨v3, rfl, o3, u3⟩
    have O3 := Lib.hid o3
    have hfin := Lib.hid (And.intro (N1.out.trans u2) u3)
    clear o3 u2 u3
    go_wp2_with fail
    go_ret
    rw [hf2.out]
    exact FindTo.of O3.out hfin.out.1 hfin.out.2
end
end Go.Proofs.YtkhdnfmnnapjlaaDoor
