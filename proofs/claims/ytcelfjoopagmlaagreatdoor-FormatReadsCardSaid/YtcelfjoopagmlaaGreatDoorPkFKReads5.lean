/- types.lookup. types.lookup of no fields. types.below, types.Sub. The walk of FormatReads. What the rows' lists of package-level variables give the walks; a world in which the variables lie as their initialisers lay them. The values of the statements of layer 1, in memory: a Value, a slice of Values. -/
import Derived.Test.YtcelfjoopagmlaaGreatDoorPkFKReads4
import Derived.Maps.OwnIn
import Derived.Test.YtcelfjoopagmlaaGreatDoorCards
import Derived.Test.YtcelfjoopagmlaaGreatDoorTie
import Derived.Test.YtcelfjoopagmlaaGreatDoorPkFKReads0
import Derived.ProofKit
import Derived.OpenShut
import Derived.ShutString
import Derived.LaidMore
import Derived.MakeChecks
import Derived.Stop.Joined
import Derived.Stop.LaidErr
import Derived.Deep.DeepHandedRow
import Derived.Deep.DeepWitnessRowRef
import Derived.Lib.LaidTab
namespace Go.Proofs.YtcelfjoopagmlaaGreatDoor
open Go.RowKit Go.MapKept
set_option linter.unusedVariables false
set_option linter.unusedSimpArgs false
attribute [local irreducible] Calls
open Fm (Ty Vl Str nameB rightTy rightVl)

theorem Backward_c (a : Option Addr) (n c : Nat) (w : World) : Calls Tryz.prog 96 #[.slice a n c] w fun e w' => e = .returned (.func (.func 114) #[] #[.pointer (some ⟨w.heap.size, 0, none⟩)]) ∧ w' = w.alloc (.cells #[.slice a n c] 22) := by
  go_enter Tryz.func96, Tryz.ntmps96
  go_wp2_with fail
  go_ret
  exact ⟨rfl, rfl⟩
/-- What the loop holds while it goes on, and where it stops. -/
def LkI (w0 : World) (bt : Nat) (l : List (Str × Ty)) (s : Str) (pre : List Nat) (W : World) : Prop := (∀ j ∈ pre, ∀ h : j < l.length, (l[j]).1 ≠ s) ∧ Upd (fun k => k = bt) w0 W
def LkX (w0 : World) (bt p4 p5 : Nat) (l : List (Str × Ty)) (s : Str) (sv : Nat → Option Addr × Nat × Nat) (c : Code) (pre : List Nat) (W : World) : Prop :=
  c = .ret ∧ ∃ m, ∃ h : m < l.length, (l[m]).1 = s ∧ (∀ j, m < j → ∀ h : j < l.length, (l[j]).1 ≠ s) ∧ Upd (fun k => k = bt ∨ k = p4 ∨ k = p5) w0 W ∧ W.heap[p4]? = some (.cells #[.int .i64 (l[m]).2.kind, sl3 (sv m)] tTy (0, 0)) ∧ W.heap[p5]? = some (.cells #[.bool true] 4 (0, 0))
theorem look_no {l : List (Str × Ty)} {s : Str} (h : ∀ j (h : j < l.length), (l[j]).1 ≠ s) : Fm.lookup l s = none := by
  unfold Fm.lookup
  rw [List.find?_eq_none.2 (fun x hx => ?_)]
  · rfl
  · obtain ⟨j, hj, e⟩ := List.mem_iff_getElem.1 (List.mem_reverse.1 hx)
    have := h j hj
    rw [e] at this
    simpa using this
theorem look_at {l : List (Str × Ty)} {s : Str} {m : Nat} (hm : m < l.length) (he : (l[m]).1 = s) (h : ∀ j, m < j → ∀ h : j < l.length, (l[j]).1 ≠ s) : Fm.lookup l s = some (l[m]).2 := by
  unfold Fm.lookup
  have e : l.reverse.find? (fun f => decide (f.1 = s)) = some l[m] := by
    refine List.find?_eq_some_iff_append.2 ⟨by simpa using he, (l.drop (m + 1)).reverse, (l.take m).reverse, ?_, fun x hx => ?_⟩
    · have h1 : l = l.take m ++ l[m] :: l.drop (m + 1) := by rw [List.getElem_cons_drop, List.take_append_drop]
      conv => lhs; rw [h1]
      simp
    · obtain ⟨j, hj, e⟩ := List.mem_iff_getElem.1 (List.mem_reverse.1 hx)
      rw [List.length_drop] at hj
      rw [List.getElem_drop] at e
      have := h (m + 1 + j) (by omega) (by omega)
      rw [e] at this
      simpa using this
  rw [e]; rfl
theorem range_pre {n x : Nat} {pre rest : List Nat} (h : (List.range n).reverse = pre ++ x :: rest) : x < n ∧ ∀ j, x < j → j < n → j ∈ pre := by
  have hp : ((List.range n).reverse).Pairwise (fun a b => b < a) := List.pairwise_reverse.2 List.pairwise_lt_range
  rw [h] at hp
  have h2 := (List.pairwise_append.1 hp).2.1
  rw [List.pairwise_cons] at h2
  have hm : x ∈ (List.range n).reverse := by rw [h]; simp
  refine ⟨by simpa using hm, fun j hj hn => ?_⟩
  have hjm : j ∈ (List.range n).reverse := by simpa using hn
  rw [h] at hjm
  rcases List.mem_append.1 hjm with h3 | h3
  · exact h3
  · rcases List.mem_cons.1 h3 with h3 | h3
    · omega
    · have := h2.1 j h3; omega
theorem LkI.bears {w0 : World} {bt : Nat} {l : List (Str × Ty)} {s : Str} : Bears w0.heap.size bt (LkI w0 bt l s) := fun pre A B k h u hk => by
  refine ⟨h.1, h.2.trans' u (fun j hj e => ?_)⟩
  rcases hk with hk | hk
  · omega
  · omega
theorem LkX.bears {w0 : World} {bt p4 p5 : Nat} {l : List (Str × Ty)} {s : Str} {sv : Nat → Option Addr × Nat × Nat} (h4 : p4 ≠ bt) (h5 : p5 ≠ bt) (c : Code) : Bears w0.heap.size bt (LkX w0 bt p4 p5 l s sv c) := fun pre A B k h u hk => by
  obtain ⟨hc, m, hm, h1, h2, hu, b4, b5⟩ := h
  refine ⟨hc, m, hm, h1, h2, hu.trans' u (fun j hj e => ?_), u.keep b4 (fun e => ?_), u.keep b5 (fun e => ?_)⟩
  · rcases hk with hk | hk
    · exact Or.inl (by omega)
    · omega
  · rcases hk with hk | ⟨_, o, ho, hn⟩
    · omega
    · subst e; rw [b4] at ho; cases ho; cases hn
  · rcases hk with hk | ⟨_, o, ho, hn⟩
    · omega
    · subst e; rw [b5] at ho; cases ho; cases hn
def LkPost (l : List (Str × Ty)) (s : Str) (w : World) (e : Ending) (w' : World) : Prop :=
  ∃ (k : Int) (xa : Option Addr) (xl xc : Nat) (bb : Bool), e = .returned (.tuple #[.agg #[.int .i64 k, .slice xa xl xc], .bool bb]) ∧ Hid (bb = (Fm.lookup l s).isSome ∧ (∀ t, Fm.lookup l s = some t → k = t.kind ∧ TyAt w' (.slice xa xl xc) t) ∧ Nw w w')
theorem lk_results (tmps : Array Value) (w : World) (p4 p5 : Nat) (x y z : Value) (h4 : tmps.getD 4 undef = .pointer (some ⟨p4, 0, none⟩)) (h5 : tmps.getD 5 undef = .pointer (some ⟨p5, 0, none⟩)) (hb : w.heap[p4]? = some (.cells #[x, y] tTy (0, 0))) (hc : w.heap[p5]? = some (.cells #[z] 4 (0, 0))) :
    (results Tryz.f75 tmps).run Tryz.prog w = .ok (.tuple #[.agg #[x, y], z]) w := by
  have c0 : w.cell? ⟨p4, 0, none⟩ = some x := by rw [cells_cell hb]; rfl
  have c1 : w.cell? ⟨p4, 1, none⟩ = some y := by rw [cells_cell hb]; rfl
  have c2 : w.cell? ⟨p5, 0, none⟩ = some z := by rw [cells_cell hc]; rfl
  rw [Array.getD_eq_getD_getElem?] at h4 h5
  simp [results, Tryz.results75, go_sem, h4, h5, c0, c1, c2]
set_option maxHeartbeats 4000000 in
set_option maxRecDepth 100000 in
theorem lookup_c (b off cap : Nat) (l : List (Str × Ty)) (sv : Nat → Option Addr × Nat × Nat) (s : Str) (w : World) (hgb : nG ≤ w.heap.size) (hf : FdK w b off l sv) (hl : l.length ≤ 8) :
    Calls Tryz.prog 75 #[.slice (some ⟨b, off, none⟩) l.length cap, .string ⟨s.toArray⟩] w (LkPost l s w) := by
  refine callsIn_wide.1 (callsIn_of_wp_marks Tryz.func75 rfl trivial (n := 0) ((wpIn_wide (n := 0)).2 ?_))
  simp only [Tryz.ntmps75, List.size_toArray, List.length_cons, List.length_nil, Nat.reduceAdd, Nat.reduceSub, Array.replicate_succ, Array.replicate_zero, List.push_toArray, List.append_toArray, List.nil_append, List.cons_append]
  have n1 := nw_alloc w (.cells #[.string ⟨s.toArray⟩] 9)
  have n2 := nw_alloc (w.alloc (.cells #[.string ⟨s.toArray⟩] 9)) (.cells #[.int .i64 0, .slice none 0 0] tTy)
  have n3 := nw_alloc ((w.alloc (.cells #[.string ⟨s.toArray⟩] 9)).alloc (.cells #[.int .i64 0, .slice none 0 0] tTy)) (.cells #[.bool false] 4)
  have b1 := Nw.keep (n2.trans n3) (heap_new w (.cells #[.string ⟨s.toArray⟩] 9))
  have b2 := Nw.keep n3 (heap_new (w.alloc (.cells #[.string ⟨s.toArray⟩] 9)) (.cells #[.int .i64 0, .slice none 0 0] tTy))
  have b3 := heap_new ((w.alloc (.cells #[.string ⟨s.toArray⟩] 9)).alloc (.cells #[.int .i64 0, .slice none 0 0] tTy)) (.cells #[.bool false] 4)
  have hN := (n1.trans n2).trans n3
  obtain ⟨W, hW⟩ : ∃ W, W = ((w.alloc (.cells #[.string ⟨s.toArray⟩] 9)).alloc (.cells #[.int .i64 0, .slice none 0 0] tTy)).alloc (.cells #[.bool false] 4) := ⟨_, rfl⟩
  have hWs : W.heap.size = w.heap.size + 1 + 1 + 1 := by rw [hW]; simp
  rw [← hW] at hN b1 b2 b3
  simp only [World.size_alloc] at b2 b3
  have HN := Lib.hid hN
  have HW := Lib.hid hW
  have HB1 := Lib.hid b1
  have HB2 := Lib.hid b2
  have HB3 := Lib.hid b3
  have HWs := Lib.hid hWs
  have hcall := Lib.hid (Backward_c (some ⟨b, off, none⟩) l.length cap W)
  have HF := Lib.hid hf
  clear n1 n2 n3 b1 b2 b3 hN hW hWs hf
  go_upto_region 1 with fail
  rw [← HW.out]
  clear HW
  go_wp2_with fail
  (with_reducible refine (hcall.out).mono ?_)
  rintro _ _ ⟨rfl, rfl⟩
  clear hcall
  have hb4 := heap_new W (.cells #[.slice (some ⟨b, off, none⟩) l.length cap] 22)
  have n4 := nw_alloc W (.cells #[.slice (some ⟨b, off, none⟩) l.length cap] 22)
  obtain ⟨w0, hw0⟩ : ∃ y, y = W.alloc (.cells #[.slice (some ⟨b, off, none⟩) l.length cap] 22) := ⟨_, rfl⟩
  have hs0 : w0.heap.size = w.heap.size + 4 := by rw [hw0, World.size_alloc, HWs.out]
  rw [← hw0] at hb4 n4
  rw [HWs.out] at hb4
  have hblt := HF.out.lt
  have HF0 : FdK w0 b off l sv := ⟨by omega, fun i hi => by
    obtain ⟨h1, h2, h3, h4⟩ := HF.out.at_ i hi
    exact ⟨nw_cellF (HN.out.trans n4) h1, nw_cellF (HN.out.trans n4) h2, nw_cellF (HN.out.trans n4) h3, h4.nw (HN.out.trans n4)⟩⟩
  have hseq := back_seq (w.heap.size + 1 + 1 + 1) b off cap l sv w0 hb4 HF0 hl
  have HSEQ := Lib.hid hseq
  have HW0 := Lib.hid hw0
  have HN0 := Lib.hid (HN.out.trans n4)
  have K1 := Lib.hid (Nw.keep n4 HB1.out)
  have K2 := Lib.hid (Nw.keep n4 HB2.out)
  have K3 := Lib.hid (Nw.keep n4 HB3.out)
  clear hseq hb4 hw0 n4 HF0
  go_wp2_with fail
  rw [← HW0.out, HWs.out]
  clear HW0
  apply wp_rangeFuncW (gf := 114) (encs := encF l sv) rfl (enters_of Tryz.func114 (by kernel_rfl) rfl) HSEQ.out (by omega) (by omega) (by intro k hk; rcases hk with rfl | rfl <;> omega) (fun _ => rfl) (LkI w0 (w.heap.size + 1 + 1 + 1) l s) (LkX w0 (w.heap.size + 1 + 1 + 1) (w.heap.size + 1) (w.heap.size + 1 + 1) l s sv) LkI.bears (LkX.bears (by omega) (by omega)) ⟨fun j hj => (by cases hj), Upd.refl _ _⟩
  case hassign =>
    intro lp x V K hK
    unfold encF sl3
    gi_wp2_with (rw [Oper.semAt_eq _ _ _ (fun c h => by cases h)]; go_simp)
    exact hK
  case hw₁ => exact fun x V => nw_alloc _ _
  case hbody =>
    intro lp pre x rest V0 V hxs hI hV0 hV
    obtain ⟨hno, hu⟩ := hI
    obtain ⟨hx, hpre⟩ := range_pre hxs
    have hb7 := hV _ _ _ _ (heap_new V0 _)
    have g1 : (l[x]?.map (·.1)).getD [] = (l[x]).1 := by simp [hx]
    have g2 : (l[x]?.map (·.2.kind)).getD 0 = (l[x]).2.kind := by simp [hx]
    rw [g1, g2] at hb7
    have q1 := hu.keep K1.out (fun e => by omega)
    have q2 := hu.keep K2.out (fun e => by omega)
    have q3 := hu.keep K3.out (fun e => by omega)
    have c70 : V.cell? ⟨V0.heap.size, 0, none⟩ = some (.string ⟨(l[x]).1.toArray⟩) := by rw [cells_cell hb7]; rfl
    have c71 : V.cell? ⟨V0.heap.size, 1, none⟩ = some (.int .i64 (l[x]).2.kind) := by rw [cells_cell hb7]; rfl
    have c72 : V.cell? ⟨V0.heap.size, 2, none⟩ = some (.slice (sv x).1 (sv x).2.1 (sv x).2.2) := by rw [cells_cell hb7]; rfl
    have c30 : V.cell? ⟨w.heap.size, 0, none⟩ = some (.string ⟨s.toArray⟩) := by rw [cells_cell q1]; rfl
    have c40 : V.cell? ⟨w.heap.size + 1, 0, none⟩ = some (.int .i64 0) := by rw [cells_cell q2]; rfl
    have c41 : V.cell? ⟨w.heap.size + 1, 1, none⟩ = some (.slice none 0 0) := by rw [cells_cell q2]; rfl
    have c50 : V.cell? ⟨w.heap.size + 1 + 1, 0, none⟩ = some (.bool false) := by rw [cells_cell q3]; rfl
    have f40 := cells_frozen q2 0
    have f41 := cells_frozen q2 1
    have f50 := cells_frozen q3 0
    have HNO := Lib.hid hno
    have HU := Lib.hid hu
    have HPRE := Lib.hid hpre
    by_cases he : (l[x]).1 = s
    · have HE := Lib.hid he
      have HQ2 := Lib.hid q2
      have HQ3 := Lib.hid q3
      rw [he] at c70
      clear hno hu hpre hV hxs hb7 g1 g2 q1 q2 q3 he
      gi_wp2_with (rw [Oper.semAt_eq _ _ _ (fun c h => by cases h)]; go_simp)
      have hg4 : nG ≤ w.heap.size + 1 := by omega
      have hg5 : nG ≤ w.heap.size + 1 + 1 := by omega
      have hu9 : Upd (fun k => k = w.heap.size + 1 ∨ k = w.heap.size + 1 + 1) V (((V.setCell ⟨w.heap.size + 1, 0, none⟩ (.int .i64 (l[x]).2.kind)).setCell ⟨w.heap.size + 1, 1, none⟩ (.slice (sv x).1 (sv x).2.1 (sv x).2.2)).setCell ⟨w.heap.size + 1 + 1, 0, none⟩ (.bool true)) := (((Upd.refl _ V).setCell (Or.inl (Or.inl rfl)) hg4 _).setCell (Or.inl (Or.inl rfl)) hg4 _).setCell (Or.inl (Or.inr rfl)) hg5 _
      refine ⟨fun k o hk ho hn => ?_, rfl, x, hx, HE.out, fun j hj hjl => HNO.out j (HPRE.out j hj hjl) hjl, (HU.out.mono (fun k _ e => Or.inl e)).trans' hu9 (fun k _ e => Or.inr e), ?_, ?_⟩
      · refine hu9.keep ho (fun e => ?_)
        rcases e with e | e <;> omega
      · have := setCell_block (setCell_block HQ2.out 0 (.int .i64 (l[x]).2.kind)) 1 (.slice (sv x).1 (sv x).2.1 (sv x).2.2)
        exact (heap_setCell _ _ _ _ (by show w.heap.size + 1 ≠ w.heap.size + 1 + 1; omega)).trans this
      · have := setCell_block (w := ((V.setCell ⟨w.heap.size + 1, 0, none⟩ (.int .i64 (l[x]).2.kind)).setCell ⟨w.heap.size + 1, 1, none⟩ (.slice (sv x).1 (sv x).2.1 (sv x).2.2))) ((heap_setCell _ _ _ _ (by show w.heap.size + 1 + 1 ≠ w.heap.size + 1; omega)).trans ((heap_setCell _ _ _ _ (by show w.heap.size + 1 + 1 ≠ w.heap.size + 1; omega)).trans HQ3.out)) 0 (.bool true)
        exact this
    · have htt : ((l[x]).1 == s) = false := by simp; exact he
      have HE := Lib.hid he
      clear hno hu hpre hV hxs hb7 g1 g2 q1 q2 q3
      gi_wp2_with (rw [Oper.semAt_eq _ _ _ (fun c h => by cases h)]; go_simp)
      refine ⟨fun k o hk ho hn => ho, fun b hb => rfl, fun j hj h => ?_, HU.out⟩
      rcases List.mem_append.1 hj with hj | hj
      · exact HNO.out j hj h
      · have := List.mem_singleton.1 hj; subst this; exact HE.out
  case hdone =>
    rintro D V hD ⟨hno, hu⟩ hK
    have q2 := hu.keep K2.out (fun e => by omega)
    have q3 := hu.keep K3.out (fun e => by omega)
    have c40 : V.cell? ⟨w.heap.size + 1, 0, none⟩ = some (.int .i64 0) := by rw [cells_cell q2]; rfl
    have c41 : V.cell? ⟨w.heap.size + 1, 1, none⟩ = some (.slice none 0 0) := by rw [cells_cell q2]; rfl
    have c50 : V.cell? ⟨w.heap.size + 1 + 1, 0, none⟩ = some (.bool false) := by rw [cells_cell q3]; rfl
    have f40 := cells_frozen q2 0
    have f41 := cells_frozen q2 1
    have f50 := cells_frozen q3 0
    have HQ2 := Lib.hid q2
    have HQ3 := Lib.hid q3
    have HNO := Lib.hid hno
    have HU := Lib.hid hu
    have HK := Lib.hid hK
    clear hno hu q2 q3 hK
    go_wp2_with fail
    have hg4 : nG ≤ w.heap.size + 1 := by omega
    have hg5 : nG ≤ w.heap.size + 1 + 1 := by omega
    have hu9 : Upd (fun k => k = w.heap.size + 1 ∨ k = w.heap.size + 1 + 1) V (((V.setCell ⟨w.heap.size + 1, 0, none⟩ (.int .i64 0)).setCell ⟨w.heap.size + 1, 1, none⟩ (.slice none 0 0)).setCell ⟨w.heap.size + 1 + 1, 0, none⟩ (.bool false)) := (((Upd.refl _ V).setCell (Or.inl (Or.inl rfl)) hg4 _).setCell (Or.inl (Or.inl rfl)) hg4 _).setCell (Or.inl (Or.inr rfl)) hg5 _
    have z4 := (heap_setCell ((V.setCell ⟨w.heap.size + 1, 0, none⟩ (.int .i64 0)).setCell ⟨w.heap.size + 1, 1, none⟩ (.slice none 0 0)) ⟨w.heap.size + 1 + 1, 0, none⟩ (.bool false) (w.heap.size + 1) (by show w.heap.size + 1 ≠ w.heap.size + 1 + 1; omega)).trans (setCell_block (setCell_block HQ2.out 0 (.int .i64 0)) 1 (.slice none 0 0))
    have z5 := setCell_block (w := ((V.setCell ⟨w.heap.size + 1, 0, none⟩ (.int .i64 0)).setCell ⟨w.heap.size + 1, 1, none⟩ (.slice none 0 0))) ((heap_setCell _ _ _ _ (by show w.heap.size + 1 + 1 ≠ w.heap.size + 1; omega)).trans ((heap_setCell _ _ _ _ (by show w.heap.size + 1 + 1 ≠ w.heap.size + 1; omega)).trans HQ3.out)) 0 (.bool false)
    have zD := hu9.keep HK.out (fun e => by rcases e with e | e <;> omega)
    generalize ((V.setCell ⟨w.heap.size + 1, 0, none⟩ (.int .i64 0)).setCell ⟨w.heap.size + 1, 1, none⟩ (.slice none 0 0)).setCell ⟨w.heap.size + 1 + 1, 0, none⟩ (.bool false) = Z at *
    refine ⟨by simp, .inl ⟨_, _, rfl, run_takeDeferred zD, ?_⟩⟩
    refine ⟨_, lk_results _ _ _ _ _ _ _ rfl rfl ((World.putObj_heap_other (by omega)).trans z4) ((World.putObj_heap_other (by omega)).trans z5), _, none, 0, 0, false, rfl, ?_⟩
    have hlk := look_no (l := l) (s := s) (fun j hj => HNO.out j (by simpa using hj) hj)
    have hnn : Nw w (Z.putObj D (.deferred none)) := ((HN0.out.trans' HU.out (S := fun _ => False) (fun k hk e => by omega)).trans' hu9 (fun k hk e => by rcases e with e | e <;> omega)).trans' (upd_putObj Z D (.deferred none) (by omega)) (fun k hk e => by omega)
    exact And.intro (by rw [hlk]; rfl) (And.intro (fun t ht => by rw [hlk] at ht; cases ht) hnn)
  case hstop =>
    rintro D c pre V hD ⟨rfl, m, hm, he, hlast, hu, q4, q5⟩ hK
    go_wp2_with fail
    refine ⟨by simp, .inl ⟨_, _, rfl, run_takeDeferred hK, ?_⟩⟩
    have hNw : Nw w (V.putObj D (.deferred none)) := (HN0.out.trans' hu (S := fun _ => False) (fun k hk e => by rcases e with e | e | e <;> omega)).trans' (upd_putObj V D (.deferred none) (by omega)) (fun k hk e => by omega)
    refine ⟨_, lk_results _ _ _ _ _ _ _ rfl rfl ((World.putObj_heap_other (by omega)).trans q4) ((World.putObj_heap_other (by omega)).trans q5), _, _, _, _, true, rfl, ?_⟩
    have hlk := look_at hm he hlast
    exact ⟨by rw [hlk]; rfl, fun t ht => by rw [hlk] at ht; obtain rfl := Option.some.inj ht; exact ⟨rfl, (HF.out.at_ m hm).2.2.2.nw hNw⟩, hNw⟩
end Go.Proofs.YtcelfjoopagmlaaGreatDoor
namespace Go.Proofs.YtcelfjoopagmlaaGreatDoor
open Go.RowKit Go.MapKept
set_option linter.unusedVariables false
set_option linter.unusedSimpArgs false
attribute [local irreducible] Calls
open Fm (Ty Vl Str nameB rightTy rightVl)

def sv0 : Nat → Option Addr × Nat × Nat := fun _ => (none, 0, 0)
set_option maxHeartbeats 4000000 in
set_option maxRecDepth 100000 in
theorem back_nil (bt : Nat) (a : Option Addr) (cap : Nat) (w : World) (hbt : w.heap[bt]? = some (.cells #[.slice a 0 cap] 22 (0, 0))) :
    SeqB Tryz.prog 114 #[.pointer (some ⟨bt, 0, none⟩)] (encF [] sv0) bt (fun k => k = bt) [] w := by
  intro lp J Jx W u hJ hJx hY h0
  refine (callsIn_wide (n := 0)).1 ?_
  have e1 := Nw.keep u hbt
  refine callsIn_of_wp Tryz.func114 rfl trivial ?_ rfl
  simp only [Tryz.ntmps114, List.size_toArray, List.length_cons, List.length_nil, Nat.reduceAdd, Nat.reduceSub, Array.replicate_succ, Array.replicate_zero, List.push_toArray, List.append_toArray, List.nil_append, List.cons_append]
  have c1 : W.cell? ⟨bt, 0, none⟩ = some (.slice a 0 cap) := by rw [cells_cell e1]; rfl
  gi_wp2
  gi_loopw [3] (fun (iv : Value) wr => iv = .int .i64 (-1) ∧ J [] wr) (fun (iv : Value) _ => (intOf iv + 1).toNat)
  case atStart => exact ⟨rfl, h0⟩
  case round =>
    obtain ⟨rfl, hJs⟩ := hrel
    gi_wp2
    go_end0
    exact ⟨⟨_, rfl⟩, .inl hJs⟩
set_option maxHeartbeats 4000000 in
set_option maxRecDepth 100000 in
theorem lookup_nil (a : Option Addr) (cap : Nat) (s : Str) (w : World) (hgb : nG ≤ w.heap.size) :
    Calls Tryz.prog 75 #[.slice a 0 cap, .string ⟨s.toArray⟩] w (LkPost [] s w) := by
  refine callsIn_wide.1 (callsIn_of_wp_marks Tryz.func75 rfl trivial (n := 0) ((wpIn_wide (n := 0)).2 ?_))
  simp only [Tryz.ntmps75, List.size_toArray, List.length_cons, List.length_nil, Nat.reduceAdd, Nat.reduceSub, Array.replicate_succ, Array.replicate_zero, List.push_toArray, List.append_toArray, List.nil_append, List.cons_append]
  have n1 := nw_alloc w (.cells #[.string ⟨s.toArray⟩] 9)
  have n2 := nw_alloc (w.alloc (.cells #[.string ⟨s.toArray⟩] 9)) (.cells #[.int .i64 0, .slice none 0 0] tTy)
  have n3 := nw_alloc ((w.alloc (.cells #[.string ⟨s.toArray⟩] 9)).alloc (.cells #[.int .i64 0, .slice none 0 0] tTy)) (.cells #[.bool false] 4)
  have b1 := Nw.keep (n2.trans n3) (heap_new w (.cells #[.string ⟨s.toArray⟩] 9))
  have b2 := Nw.keep n3 (heap_new (w.alloc (.cells #[.string ⟨s.toArray⟩] 9)) (.cells #[.int .i64 0, .slice none 0 0] tTy))
  have b3 := heap_new ((w.alloc (.cells #[.string ⟨s.toArray⟩] 9)).alloc (.cells #[.int .i64 0, .slice none 0 0] tTy)) (.cells #[.bool false] 4)
  have hN := (n1.trans n2).trans n3
  obtain ⟨W, hW⟩ : ∃ W, W = ((w.alloc (.cells #[.string ⟨s.toArray⟩] 9)).alloc (.cells #[.int .i64 0, .slice none 0 0] tTy)).alloc (.cells #[.bool false] 4) := ⟨_, rfl⟩
  have hWs : W.heap.size = w.heap.size + 1 + 1 + 1 := by rw [hW]; simp
  rw [← hW] at hN b1 b2 b3
  simp only [World.size_alloc] at b2 b3
  have HN := Lib.hid hN
  have HW := Lib.hid hW
  have HB1 := Lib.hid b1
  have HB2 := Lib.hid b2
  have HB3 := Lib.hid b3
  have HWs := Lib.hid hWs
  have hcall := Lib.hid (Backward_c a 0 cap W)
  clear n1 n2 n3 b1 b2 b3 hN hW hWs
  go_upto_region 1 with fail
  rw [← HW.out]
  clear HW
  go_wp2_with fail
  (with_reducible refine (hcall.out).mono ?_)
  rintro _ _ ⟨rfl, rfl⟩
  clear hcall
  have hb4 := heap_new W (.cells #[.slice a 0 cap] 22)
  have n4 := nw_alloc W (.cells #[.slice a 0 cap] 22)
  obtain ⟨w0, hw0⟩ : ∃ y, y = W.alloc (.cells #[.slice a 0 cap] 22) := ⟨_, rfl⟩
  have hs0 : w0.heap.size = w.heap.size + 4 := by rw [hw0, World.size_alloc, HWs.out]
  rw [← hw0] at hb4 n4
  rw [HWs.out] at hb4
  have hseq := back_nil (w.heap.size + 1 + 1 + 1) a cap w0 hb4
  have HSEQ := Lib.hid hseq
  have HW0 := Lib.hid hw0
  have HN0 := Lib.hid (HN.out.trans n4)
  have K1 := Lib.hid (Nw.keep n4 HB1.out)
  have K2 := Lib.hid (Nw.keep n4 HB2.out)
  have K3 := Lib.hid (Nw.keep n4 HB3.out)
  clear hseq hb4 hw0 n4
  go_wp2_with fail
  rw [← HW0.out, HWs.out]
  clear HW0
  apply wp_rangeFuncW (gf := 114) (encs := encF [] sv0) rfl (enters_of Tryz.func114 (by kernel_rfl) rfl) HSEQ.out (by omega) (by omega) (by intro k hk; subst hk; omega) (fun _ => rfl) (LkI w0 (w.heap.size + 1 + 1 + 1) [] s) (LkX w0 (w.heap.size + 1 + 1 + 1) (w.heap.size + 1) (w.heap.size + 1 + 1) [] s sv0) LkI.bears (LkX.bears (by omega) (by omega)) ⟨fun j hj => (by cases hj), Upd.refl _ _⟩
  case hassign =>
    intro lp x V K hK
    unfold encF sl3
    gi_wp2_with (rw [Oper.semAt_eq _ _ _ (fun c h => by cases h)]; go_simp)
    exact hK
  case hw₁ => exact fun x V => nw_alloc _ _
  case hbody =>
    intro lp pre x rest V0 V hxs
    have := congrArg List.length hxs
    simp at this
  case hdone =>
    rintro D V hD ⟨hno, hu⟩ hK
    have q2 := hu.keep K2.out (fun e => by omega)
    have q3 := hu.keep K3.out (fun e => by omega)
    have c40 : V.cell? ⟨w.heap.size + 1, 0, none⟩ = some (.int .i64 0) := by rw [cells_cell q2]; rfl
    have c41 : V.cell? ⟨w.heap.size + 1, 1, none⟩ = some (.slice none 0 0) := by rw [cells_cell q2]; rfl
    have c50 : V.cell? ⟨w.heap.size + 1 + 1, 0, none⟩ = some (.bool false) := by rw [cells_cell q3]; rfl
    have f40 := cells_frozen q2 0
    have f41 := cells_frozen q2 1
    have f50 := cells_frozen q3 0
    have HQ2 := Lib.hid q2
    have HQ3 := Lib.hid q3
    have HNO := Lib.hid hno
    have HU := Lib.hid hu
    have HK := Lib.hid hK
    clear hno hu q2 q3 hK
    go_wp2_with fail
    have hg4 : nG ≤ w.heap.size + 1 := by omega
    have hg5 : nG ≤ w.heap.size + 1 + 1 := by omega
    have hu9 : Upd (fun k => k = w.heap.size + 1 ∨ k = w.heap.size + 1 + 1) V (((V.setCell ⟨w.heap.size + 1, 0, none⟩ (.int .i64 0)).setCell ⟨w.heap.size + 1, 1, none⟩ (.slice none 0 0)).setCell ⟨w.heap.size + 1 + 1, 0, none⟩ (.bool false)) := (((Upd.refl _ V).setCell (Or.inl (Or.inl rfl)) hg4 _).setCell (Or.inl (Or.inl rfl)) hg4 _).setCell (Or.inl (Or.inr rfl)) hg5 _
    have z4 := (heap_setCell ((V.setCell ⟨w.heap.size + 1, 0, none⟩ (.int .i64 0)).setCell ⟨w.heap.size + 1, 1, none⟩ (.slice none 0 0)) ⟨w.heap.size + 1 + 1, 0, none⟩ (.bool false) (w.heap.size + 1) (by show w.heap.size + 1 ≠ w.heap.size + 1 + 1; omega)).trans (setCell_block (setCell_block HQ2.out 0 (.int .i64 0)) 1 (.slice none 0 0))
    have z5 := setCell_block (w := ((V.setCell ⟨w.heap.size + 1, 0, none⟩ (.int .i64 0)).setCell ⟨w.heap.size + 1, 1, none⟩ (.slice none 0 0))) ((heap_setCell _ _ _ _ (by show w.heap.size + 1 + 1 ≠ w.heap.size + 1; omega)).trans ((heap_setCell _ _ _ _ (by show w.heap.size + 1 + 1 ≠ w.heap.size + 1; omega)).trans HQ3.out)) 0 (.bool false)
    have zD := hu9.keep HK.out (fun e => by rcases e with e | e <;> omega)
    generalize ((V.setCell ⟨w.heap.size + 1, 0, none⟩ (.int .i64 0)).setCell ⟨w.heap.size + 1, 1, none⟩ (.slice none 0 0)).setCell ⟨w.heap.size + 1 + 1, 0, none⟩ (.bool false) = Z at *
    refine ⟨by simp, .inl ⟨_, _, rfl, run_takeDeferred zD, ?_⟩⟩
    refine ⟨_, lk_results _ _ _ _ _ _ _ rfl rfl ((World.putObj_heap_other (by omega)).trans z4) ((World.putObj_heap_other (by omega)).trans z5), _, none, 0, 0, false, rfl, ?_⟩
    have hlk := look_no (l := []) (s := s) (fun j hj => absurd hj (Nat.not_lt_zero _))
    have hnn : Nw w (Z.putObj D (.deferred none)) := ((HN0.out.trans' HU.out (S := fun _ => False) (fun k hk e => by omega)).trans' hu9 (fun k hk e => by rcases e with e | e <;> omega)).trans' (upd_putObj Z D (.deferred none) (by omega)) (fun k hk e => by omega)
    exact And.intro (by rw [hlk]; rfl) (And.intro (fun t ht => by rw [hlk] at ht; cases ht) hnn)
  case hstop =>
    rintro D c pre V hD ⟨rfl, m, hm, -⟩ hK
    exact absurd hm (Nat.not_lt_zero _)
end Go.Proofs.YtcelfjoopagmlaaGreatDoor
namespace Go.Proofs.YtcelfjoopagmlaaGreatDoor
open Go.RowKit Go.MapKept
set_option linter.unusedVariables false
set_option linter.unusedSimpArgs false
attribute [local irreducible] Calls
open Fm (Ty Vl Str nameB rightTy rightVl)

def subF (d : Nat) (a : Ty) (f : Str × Ty) : Bool := match Fm.lookup a.fs f.1 with
  | none => false
  | some t => Fm.sub d t f.2
theorem sub_eq {d : Nat} {a b : Ty} (hk : a.kind = b.kind) : Fm.sub (d + 1) a b = !(b.fs.any fun f => !subF d a f) := by
  show (decide (a.kind = b.kind) && b.fs.all (subF d a)) = _
  rw [decide_eq_true hk, Bool.true_and, List.not_any_eq_all_not]
  simp
set_option maxHeartbeats 4000000 in
set_option maxRecDepth 100000 in
theorem below_c : ∀ (d : Nat) (a b : Ty) (fv gv : Value) (w : World), nG ≤ w.heap.size → rightTy d a = true → rightTy d b = true → TyAt w fv a → TyAt w gv b →
    Calls Tryz.prog 43 #[.agg #[.int .i64 a.kind, fv], .agg #[.int .i64 b.kind, gv]] w fun e w' => e = .returned (.bool (Fm.sub d a b)) ∧ Nw w w' := by
  intro d
  induction d with
  | zero => intro a b fv gv w _ h; cases h
  | succ d ih =>
    intro a b fv gv w hgb hra hrb hta htb
    have IH := Lib.hid ih
    have RA := Lib.hid (Fm.rt_iff.1 hra)
    have RB := Lib.hid (Fm.rt_iff.1 hrb)
    obtain ⟨fa, fc, rfl, hfl, hfc⟩ := hta.cells
    obtain ⟨ga, gc, rfl, hgl, hgc⟩ := htb.cells
    have HFC : Hid (FdC w fa a.fs) := hfc
    have HGC : Hid (FdC w ga b.fs) := hgc
    have n1 := nw_alloc w (.cells #[.int .i64 a.kind, .slice fa a.fs.length fc] tTy)
    have n2 := nw_alloc (w.alloc (.cells #[.int .i64 a.kind, .slice fa a.fs.length fc] tTy)) (.cells #[.int .i64 b.kind, .slice ga b.fs.length gc] tTy)
    have b1 := n2.keep (heap_new w (.cells #[.int .i64 a.kind, .slice fa a.fs.length fc] tTy))
    have b2 := heap_new (w.alloc (.cells #[.int .i64 a.kind, .slice fa a.fs.length fc] tTy)) (.cells #[.int .i64 b.kind, .slice ga b.fs.length gc] tTy)
    rw [World.size_alloc] at b2
    have hN := n1.trans n2
    obtain ⟨W, hW⟩ : ∃ W, W = (w.alloc (.cells #[.int .i64 a.kind, .slice fa a.fs.length fc] tTy)).alloc (.cells #[.int .i64 b.kind, .slice ga b.fs.length gc] tTy) := ⟨_, rfl⟩
    rw [← hW] at hN b1 b2
    have HN := Lib.hid hN
    have HW := Lib.hid hW
    have HGB : Hid (nG ≤ W.heap.size) := Nat.le_trans hgb hN.size
    have c0 : W.cell? ⟨w.heap.size, 0, none⟩ = some (.int .i64 a.kind) := by rw [cells_cell b1]; rfl
    have c1 : W.cell? ⟨w.heap.size + 1, 0, none⟩ = some (.int .i64 b.kind) := by rw [cells_cell b2]; rfl
    have c2 : W.cell? ⟨w.heap.size + 1, 1, none⟩ = some (.slice ga b.fs.length gc) := by rw [cells_cell b2]; rfl
    have HA1 : Hid (∀ y, Nw W y → y.cell? ⟨w.heap.size, 1, none⟩ = some (.slice fa a.fs.length fc)) := fun y u => by rw [cells_cell (Nw.keep u b1)]; rfl
    have hgl1 : (b.fs.length : Int) ≤ 8 := by have := RB.out.len; omega
    have HAL : Hid (a.fs.length ≤ 8) := RA.out.len
    clear ih hra hrb hta htb hfc hgc n1 n2 b1 b2 hN hW hgb hfl hgl
    go_enter Tryz.func43, Tryz.ntmps43
    go_upto_region 1 with fail
    rw [← HW.out]
    clear HW
    by_cases hk : a.kind = b.kind
    rotate_left
    · have e0 : (a.kind == b.kind) = false := by simp [hk]
      have e9 : Hid (Fm.sub (d + 1) a b = false) := by
        show (decide (a.kind = b.kind) && _) = _
        rw [decide_eq_false hk]; rfl
      clear hk HFC HGC
      go_wp2_with fail
      go_ret
      exact ⟨by rw [e9.out]; rfl, HN.out⟩
    have e0 : (a.kind == b.kind) = true := by simp [hk]
    have e9 := Lib.hid (sub_eq (d := d) hk)
    have hclo : ∀ (y : World) (f : Str × Ty) (sv : Value), Nw W y → f ∈ b.fs → TyAt y sv f.2 → f.1.length ≤ maxLen → Calls Tryz.prog 74 #[.agg #[.string ⟨f.1.toArray⟩, .int .i64 f.2.kind, sv], .pointer (some ⟨w.heap.size, 0, none⟩)] y fun e w' => e = .returned (.bool (!subF d a f)) ∧ Nw y w' := fun y f sv u hf hsv hfl => by
      obtain ⟨sa, sc, rfl, -⟩ := hsv.cells
      have n1 := nw_alloc y (.cells #[.string ⟨f.1.toArray⟩, .int .i64 f.2.kind, .slice sa f.2.fs.length sc] tFd)
      have b1 := heap_new y (.cells #[.string ⟨f.1.toArray⟩, .int .i64 f.2.kind, .slice sa f.2.fs.length sc] tFd)
      obtain ⟨Y, hY⟩ : ∃ Y, Y = y.alloc (.cells #[.string ⟨f.1.toArray⟩, .int .i64 f.2.kind, .slice sa f.2.fs.length sc] tFd) := ⟨_, rfl⟩
      rw [← hY] at n1 b1
      have HY := Lib.hid hY
      have k1 := HA1.out Y (u.trans n1)
      have k0 : Y.cell? ⟨y.heap.size, 0, none⟩ = some (.string ⟨f.1.toArray⟩) := by rw [cells_cell b1]; rfl
      have HNY := Lib.hid n1
      have HB := Lib.hid b1
      have hYg : nG ≤ Y.heap.size := Nat.le_trans HGB.out (u.trans n1).size
      have hlk : Hid (Calls Tryz.prog 75 #[.slice fa a.fs.length fc, .string ⟨f.1.toArray⟩] Y (LkPost a.fs f.1 Y)) := by
        rcases (HFC.out.nw (HN.out.trans (u.trans n1))) with hnil | ⟨bb, off, rfl, hb, hcell⟩
        · rw [hnil]; exact lookup_nil fa fc f.1 Y hYg
        · obtain ⟨sv, hk⟩ := fdk_of hb hcell
          exact lookup_c bb off fc a.fs sv f.1 Y hYg hk HAL.out
      have HRF := Lib.hid (RB.out.sub _ hf)
      have HTF := Lib.hid (hsv.nw n1)
      have HSR : Hid (∀ t, Fm.lookup a.fs f.1 = some t → rightTy d t = true) := fun t ht => RA.out.sub _ (Fm.lookup_mem ht)
      have HSUB : Hid (subF d a f = match Fm.lookup a.fs f.1 with | none => false | some t => Fm.sub d t f.2) := rfl
      clear n1 b1 hY HFC HGC e9
      go_enter Tryz.func74, Tryz.ntmps74
      go_upto_region 1 with fail
      rw [← HY.out]
      clear HY
      go_wp2_with fail
      (with_reducible refine (hlk.out).mono ?_)
      rintro _ z1 ⟨k, xa, xl, xc, bb, rfl, HP⟩
      have n2 := nw_alloc z1 (.cells #[.int .i64 k, .slice xa xl xc] tTy)
      have b2 := heap_new z1 (.cells #[.int .i64 k, .slice xa xl xc] tTy)
      obtain ⟨z2, hz2⟩ : ∃ z, z = z1.alloc (.cells #[.int .i64 k, .slice xa xl xc] tTy) := ⟨_, rfl⟩
      rw [← hz2] at n2 b2
      have HZ2 := Lib.hid hz2
      have HUz : Hid (Nw Y z2) := HP.out.2.2.trans n2
      have d0 : z2.cell? ⟨z1.heap.size, 0, none⟩ = some (.int .i64 k) := by rw [cells_cell b2]; rfl
      have d1 : z2.cell? ⟨z1.heap.size, 1, none⟩ = some (.slice xa xl xc) := by rw [cells_cell b2]; rfl
      have kb := Nw.keep HUz.out HB.out
      have k1' : z2.cell? ⟨y.heap.size, 1, none⟩ = some (.int .i64 f.2.kind) := by rw [cells_cell kb]; rfl
      have k2' : z2.cell? ⟨y.heap.size, 2, none⟩ = some (.slice sa f.2.fs.length sc) := by rw [cells_cell kb]; rfl
      have HN2 := Lib.hid n2
      clear hz2 n2 b2 kb hlk
      go_upto_region 2 with fail
      rw [← HZ2.out]
      clear HZ2
      cases hl : Fm.lookup a.fs f.1 with
      | none =>
        have hbb : bb = false := by rw [HP.out.1, hl]; rfl
        subst hbb
        have e8 : Hid (subF d a f = false) := by show _ = _; rw [HSUB.out, hl]
        go_wp2_with fail
        go_ret
        exact ⟨by rw [e8.out]; rfl, HNY.out.trans HUz.out⟩
      | some t =>
        have hbb : bb = true := by rw [HP.out.1, hl]; rfl
        subst hbb
        obtain ⟨hkt, htt⟩ := HP.out.2.1 t hl
        subst hkt
        have e8 : Hid (subF d a f = Fm.sub d t f.2) := by show _ = _; rw [HSUB.out, hl]
        have hbl := Lib.hid (IH.out t f.2 _ _ z2 (Nat.le_trans hYg HUz.out.size) (HSR.out t hl) HRF.out (htt.nw HN2.out) (HTF.out.nw HUz.out))
        clear hl htt HP HSR
        go_wp2_with fail
        (with_reducible refine (hbl.out).mono ?_)
        rintro _ z3 ⟨rfl, u3⟩
        have U3 := Lib.hid ((HNY.out.trans HUz.out).trans u3)
        clear u3
        go_wp2_with fail
        go_ret
        exact ⟨by rw [e8.out]; rfl, U3.out⟩
    have hany := containsFunc_f 74 w.heap.size (fun args w => by rfl) (fun f => !subF d a f) ga gc b.fs W (HGC.out.nw HN.out) (by unfold maxLen; omega) (fun y f sv u hf hsv hl => hclo y f sv u hf hsv hl)
    have Hany := Lib.hid hany
    clear hclo hany hk HFC HGC
    generalize (b.fs.any fun f => !subF d a f) = ab at *
    go_wp2_with fail
    (with_reducible refine (Hany.out).mono ?_)
    rintro _ w6 ⟨rfl, u6⟩
    have U6 := Lib.hid (HN.out.trans u6)
    clear u6
    go_wp2_with fail
    go_ret
    exact ⟨by rw [e9.out]; rfl, U6.out⟩
set_option maxHeartbeats 4000000 in
set_option maxRecDepth 100000 in
theorem Sub_c (fv gv : Value) (ta tb : Ty) (w : World) (g : Gm w) (ha : TyAt w fv ta) (hb : TyAt w gv tb) :
    Calls Tryz.prog 25 #[.agg #[.int .i64 ta.kind, fv], .agg #[.int .i64 tb.kind, gv]] w fun e w' => e = .returned (.bool (fReads ta tb)) ∧ Nw w w' := by
  obtain ⟨fa, fc, rfl, -, -⟩ := ha.cells
  obtain ⟨ga, gc, rfl, -, -⟩ := hb.cells
  have n1 := nw_alloc w (.cells #[.int .i64 ta.kind, .slice fa ta.fs.length fc] tTy)
  have n2 := nw_alloc (w.alloc (.cells #[.int .i64 ta.kind, .slice fa ta.fs.length fc] tTy)) (.cells #[.int .i64 tb.kind, .slice ga tb.fs.length gc] tTy)
  have b1 := n2.keep (heap_new w (.cells #[.int .i64 ta.kind, .slice fa ta.fs.length fc] tTy))
  have b2 := heap_new (w.alloc (.cells #[.int .i64 ta.kind, .slice fa ta.fs.length fc] tTy)) (.cells #[.int .i64 tb.kind, .slice ga tb.fs.length gc] tTy)
  rw [World.size_alloc] at b2
  have hN := n1.trans n2
  obtain ⟨W0, hW⟩ : ∃ W, W = (w.alloc (.cells #[.int .i64 ta.kind, .slice fa ta.fs.length fc] tTy)).alloc (.cells #[.int .i64 tb.kind, .slice ga tb.fs.length gc] tTy) := ⟨_, rfl⟩
  rw [← hW] at hN b1 b2
  have HN := Lib.hid hN
  have HW := Lib.hid hW
  have HC0 : Hid (∀ y, Nw W0 y → y.cell? ⟨w.heap.size, 0, none⟩ = some (.int .i64 ta.kind) ∧ y.cell? ⟨w.heap.size, 1, none⟩ = some (.slice fa ta.fs.length fc) ∧ y.cell? ⟨w.heap.size + 1, 0, none⟩ = some (.int .i64 tb.kind) ∧ y.cell? ⟨w.heap.size + 1, 1, none⟩ = some (.slice ga tb.fs.length gc)) := fun y u => ⟨by rw [cells_cell (Nw.keep u b1)]; rfl, by rw [cells_cell (Nw.keep u b1)]; rfl, by rw [cells_cell (Nw.keep u b2)]; rfl, by rw [cells_cell (Nw.keep u b2)]; rfl⟩
  have HG := Lib.hid (g.upd hN)
  have HTA := Lib.hid (ha.nw hN)
  have HTB := Lib.hid (hb.nw hN)
  have hr1 := Lib.hid (types_right_c _ ta W0 HG.out HTA.out)
  obtain ⟨x0, x1, x2, x3⟩ := HC0.out W0 (Upd.refl _ _)
  clear n1 n2 b1 b2 hN hW g ha hb
  go_enter Tryz.func25, Tryz.ntmps25
  go_upto_region 1 with fail
  rw [← HW.out]
  clear HW
  go_wp2_with fail
  cases h1 : rightTy 4 ta with
  | false =>
    rw [h1] at hr1
    have e9 : Hid (fReads ta tb = false) := by show _ = _; unfold fReads; rw [h1]; rfl
    (with_reducible refine (hr1.out).mono ?_)
    rintro _ w2 ⟨rfl, u2⟩
    have U2 := Lib.hid u2
    clear u2 x0 x1 x2 x3
    go_wp2_with fail
    go_ret
    exact ⟨by rw [e9.out]; rfl, HN.out.trans U2.out⟩
  | true =>
  rw [h1] at hr1
  (with_reducible refine (hr1.out).mono ?_)
  rintro _ w2 ⟨rfl, u2⟩
  have hr2 := Lib.hid (types_right_c _ tb w2 (HG.out.upd u2) (HTB.out.nw u2))
  have U2 := Lib.hid u2
  clear x0 x1 x2 x3 hr1
  obtain ⟨x0, x1, x2, x3⟩ := HC0.out w2 u2
  clear u2
  cases h2 : rightTy 4 tb with
  | false =>
    rw [h2] at hr2
    have e9 : Hid (fReads ta tb = false) := by show _ = _; unfold fReads; rw [h2]; simp
    go_wp2_with fail
    (with_reducible refine (hr2.out).mono ?_)
    rintro _ w3 ⟨rfl, u3⟩
    have U3 := Lib.hid (U2.out.trans u3)
    clear u3 x0 x1 x2 x3
    go_wp2_with fail
    go_ret
    exact ⟨by rw [e9.out]; rfl, HN.out.trans U3.out⟩
  | true =>
  rw [h2] at hr2
  go_wp2_with fail
  (with_reducible refine (hr2.out).mono ?_)
  rintro _ w3 ⟨rfl, u3⟩
  have hbl := Lib.hid (below_c 4 ta tb _ _ w3 (HG.out.upd (U2.out.trans u3)).g.big h1 h2 (HTA.out.nw (U2.out.trans u3)) (HTB.out.nw (U2.out.trans u3)))
  have U3 := Lib.hid (U2.out.trans u3)
  have e9 : Hid (fReads ta tb = Fm.sub 4 ta tb) := by show _ = _; unfold fReads; rw [h1, h2]; rfl
  clear x0 x1 x2 x3 hr2 u3 h1 h2
  obtain ⟨x0, x1, x2, x3⟩ := HC0.out w3 U3.out
  go_wp2_with fail
  (with_reducible refine (hbl.out).mono ?_)
  rintro _ w4 ⟨rfl, u4⟩
  have U4 := Lib.hid (U3.out.trans u4)
  clear u4 x0 x1 x2 x3
  go_wp2_with fail
  go_ret
  exact ⟨by rw [e9.out]; rfl, HN.out.trans U4.out⟩
end Go.Proofs.YtcelfjoopagmlaaGreatDoor
namespace Go.Proofs.YtcelfjoopagmlaaGreatDoor
open Go.RowKit Go.MapKept
set_option linter.unusedVariables false
set_option linter.unusedSimpArgs false
attribute [local irreducible] Calls
open Fm (Ty Vl Str nameB rightTy rightVl)

set_option maxHeartbeats 16000000 in
set_option maxRecDepth 100000 in
theorem formatReads_c (P : Nat → Prop) (fv gv : Value) (a b : Ty) (nv vv : Value) (v : Vl) (w : World) (g : Gm w) (hta : TyAt w fv a) (htb : TyAt w gv b) (hv : VlAt P w nv vv v) :
    Calls Tryz.prog 6 #[.agg #[.int .i64 a.kind, fv], .agg #[.int .i64 b.kind, gv], .agg #[.int .i64 v.kind, .int .i64 v.n, nv, vv]] w fun e w' => e = .returned (.bool true) ∧ Nw w w' := by
  obtain ⟨fa, fc, rfl, -, -⟩ := hta.cells
  obtain ⟨ga, gc, rfl, -, -⟩ := htb.cells
  obtain ⟨na, nc, rfl, -, -⟩ := hv.names
  obtain ⟨va, vc, rfl, -, -⟩ := hv.vals
  -- the world w1 from w by the object (.cells #[.int .i64 a.kind, .slice fa a.fs.length fc] tTy) at w.heap.size + 0
  have nw1 := nw_alloc w (.cells #[.int .i64 a.kind, .slice fa a.fs.length fc] tTy)
  have bw1 := heap_new w (.cells #[.int .i64 a.kind, .slice fa a.fs.length fc] tTy)
  obtain ⟨w1, hw1⟩ : ∃ z, z = (w).alloc (.cells #[.int .i64 a.kind, .slice fa a.fs.length fc] tTy) := ⟨_, rfl⟩
  have sw1 : (w1).heap.size = w.heap.size + 0 + 1 := by rw [hw1, World.size_alloc]; first | done | omega
  rw [← hw1] at nw1 bw1
  (try rw [show (w).heap.size = w.heap.size + 0 by omega] at bw1)
  -- the world w2 from w1 by the object (.cells #[.int .i64 b.kind, .slice ga b.fs.length gc] tTy) at w.heap.size + 1
  have nw2 := nw_alloc w1 (.cells #[.int .i64 b.kind, .slice ga b.fs.length gc] tTy)
  have bw2 := heap_new w1 (.cells #[.int .i64 b.kind, .slice ga b.fs.length gc] tTy)
  obtain ⟨w2, hw2⟩ : ∃ z, z = (w1).alloc (.cells #[.int .i64 b.kind, .slice ga b.fs.length gc] tTy) := ⟨_, rfl⟩
  have sw2 : (w2).heap.size = w.heap.size + 1 + 1 := by rw [hw2, World.size_alloc]; first | done | omega
  rw [← hw2] at nw2 bw2
  (try rw [show (w1).heap.size = w.heap.size + 1 by omega] at bw2)
  -- the world W from w2 by the object (.cells #[.int .i64 v.kind, .int .i64 v.n, .slice na v.names.length nc, .slice va v.vals.length vc] tVl) at w.heap.size + 2
  have nW := nw_alloc w2 (.cells #[.int .i64 v.kind, .int .i64 v.n, .slice na v.names.length nc, .slice va v.vals.length vc] tVl)
  have bW := heap_new w2 (.cells #[.int .i64 v.kind, .int .i64 v.n, .slice na v.names.length nc, .slice va v.vals.length vc] tVl)
  obtain ⟨W, hW⟩ : ∃ z, z = (w2).alloc (.cells #[.int .i64 v.kind, .int .i64 v.n, .slice na v.names.length nc, .slice va v.vals.length vc] tVl) := ⟨_, rfl⟩
  have sW : (W).heap.size = w.heap.size + 2 + 1 := by rw [hW, World.size_alloc]; first | done | omega
  rw [← hW] at nW bW
  (try rw [show (w2).heap.size = w.heap.size + 2 by omega] at bW)
  have hN : Nw w W := (nw1.trans nw2).trans nW
  have c1 := Nw.keep (nw2.trans nW) bw1
  rw [Nat.add_zero] at c1
  have c2 := Nw.keep nW bw2
  have c4 := bW
  rw [hw2, hw1] at hW
  have HW := Lib.hid hW
  have HN := Lib.hid hN
  have HC : Hid (∀ y, Nw W y → (y.cell? ⟨w.heap.size, 0, none⟩ = some (.int .i64 a.kind) ∧ y.cell? ⟨w.heap.size, 1, none⟩ = some (.slice fa a.fs.length fc)) ∧ (y.cell? ⟨w.heap.size + 1, 0, none⟩ = some (.int .i64 b.kind) ∧ y.cell? ⟨w.heap.size + 1, 1, none⟩ = some (.slice ga b.fs.length gc)) ∧ y.cell? ⟨w.heap.size + 2, 0, none⟩ = some (.int .i64 v.kind) ∧ y.cell? ⟨w.heap.size + 2, 1, none⟩ = some (.int .i64 v.n) ∧ y.cell? ⟨w.heap.size + 2, 2, none⟩ = some (.slice na v.names.length nc) ∧ y.cell? ⟨w.heap.size + 2, 3, none⟩ = some (.slice va v.vals.length vc)) := fun y u => ⟨⟨by rw [cells_cell (Nw.keep u c1)]; rfl, by rw [cells_cell (Nw.keep u c1)]; rfl⟩, ⟨by rw [cells_cell (Nw.keep u c2)]; rfl, by rw [cells_cell (Nw.keep u c2)]; rfl⟩, cell4F (Nw.keep u c4)⟩
  have HG := Lib.hid (g.upd hN)
  have HA := Lib.hid (hta.nw hN)
  have HB := Lib.hid (htb.nw hN)
  have HV := Lib.hid (hv.nw hN)
  have hsm := Lib.hid (small_c W HG.out)
  clear nw1 nw2 nW bw1 bw2 bW hN c1 c2 c4 hW hw1 hw2 sw1 sw2 sW g hta htb hv
  go_enter Tryz.func6, Tryz.ntmps6
  go_upto_region 1 with fail
  rw [← HW.out]
  clear HW
  go_wp2_with fail
  (with_reducible refine (hsm.out).mono ?_)
  rintro _ y1 ⟨rfl, u1⟩
  have U1 := Lib.hid u1
  -- the cells of the boxes at y1
  obtain ⟨⟨x0, x1⟩, ⟨x2, x3⟩, z0, z1', z2', z3'⟩ := HC.out (y1) (U1).out
  have n3 := nw_alloc y1 (.cells #[.int .i64 a.kind, .slice fa a.fs.length fc, .int .i64 b.kind, .slice ga b.fs.length gc] tTy)
  have b3 := heap_new y1 (.cells #[.int .i64 a.kind, .slice fa a.fs.length fc, .int .i64 b.kind, .slice ga b.fs.length gc] tTy)
  obtain ⟨y2, hy2⟩ : ∃ y, y = y1.alloc (.cells #[.int .i64 a.kind, .slice fa a.fs.length fc, .int .i64 b.kind, .slice ga b.fs.length gc] tTy) := ⟨_, rfl⟩
  rw [← hy2] at n3 b3
  have HY2 := Lib.hid hy2
  have U2 := Lib.hid (u1.trans n3)
  have hty := Lib.hid (typed_c y1.heap.size y2.heap.size _ [(.slice fa a.fs.length fc, a), (.slice ga b.fs.length gc, b)] y2 (SlS.of_owns (xs := [[.int .i64 a.kind, .slice fa a.fs.length fc], [.int .i64 b.kind, .slice ga b.fs.length gc]]) (own_block_row (n := 2) (sz := 2) (xs := [.int .i64 a.kind, .slice fa a.fs.length fc, .int .i64 b.kind, .slice ga b.fs.length gc]) b3 rfl (by unfold maxLen; omega)) rfl (by omega) (fun y hy => by simp at hy; rcases hy with rfl | rfl <;> rfl)) (fun z hz => by
    simp at hz
    rcases hz with rfl | rfl
    · exact HA.out.nw U2.out
    · exact HB.out.nw U2.out) (by simp))
  clear hy2 n3 b3 u1 hsm
  go_wp2_with fail
  rw [← HY2.out]
  clear HY2
  (with_reducible refine (hty.out).mono ?_)
  rintro _ y3 ⟨bt, rfl, u3⟩
  have U3 := Lib.hid (U2.out.trans u3)
  clear u3 hty
  clear x0 x1 x2 x3 z0 z1' z2' z3'
  cases bt with
  | false =>
    go_wp2_with fail
    go_ret
    exact ⟨rfl, HN.out.trans U3.out⟩
  | true =>
  -- the cells of the boxes at y3
  obtain ⟨⟨x0, x1⟩, ⟨x2, x3⟩, z0, z1', z2', z3'⟩ := HC.out (y3) (U3).out
  have hvl : Hid (Calls Tryz.prog 9 #[.agg #[.int .i64 v.kind, .int .i64 v.n, .slice na v.names.length nc, .slice va v.vals.length vc], .int .i64 40, .int .i64 6] y3 fun e w' => ∃ r : Int, e = .returned (.int .i64 r) ∧ Nw y3 w') := values_c P 6 (Nat.le_refl _) v _ _ 40 y3 (HV.out.nw U3.out)
  go_wp2_with fail
  (with_reducible refine (hvl.out).mono ?_)
  rintro _ y4 ⟨r, rfl, u4⟩
  have U4 := Lib.hid (U3.out.trans u4)
  clear u4 hvl
  clear x0 x1 x2 x3 z0 z1' z2' z3'
  by_cases hr : 40 < r
  · go_wp2_with fail
    go_ret
    exact ⟨rfl, HN.out.trans U4.out⟩
  have hr' : r ≤ 40 := by omega
  clear hr
  -- the cells of the boxes at y4
  obtain ⟨⟨x0, x1⟩, ⟨x2, x3⟩, z0, z1', z2', z3'⟩ := HC.out (y4) (U4).out
  have hab := Lib.hid (Reads_c _ _ a b y4 (HG.out.upd U4.out) (HA.out.nw U4.out) (HB.out.nw U4.out))
  go_wp2_with fail
  (with_reducible refine (hab.out).mono ?_)
  rintro _ y5 ⟨rfl, u5⟩
  have U5 := Lib.hid (U4.out.trans u5)
  clear u5 hab
  clear x0 x1 x2 x3 z0 z1' z2' z3'
  -- the cells of the boxes at y5
  obtain ⟨⟨x0, x1⟩, ⟨x2, x3⟩, z0, z1', z2', z3'⟩ := HC.out (y5) (U5).out
  have hwi := Lib.hid (Witness_c _ _ a b y5 (HG.out.upd U5.out) (HA.out.nw U5.out) (HB.out.nw U5.out))
  have hsb : Hid (∀ y, Nw W y → Calls Tryz.prog 25 #[.agg #[.int .i64 a.kind, .slice fa a.fs.length fc], .agg #[.int .i64 b.kind, .slice ga b.fs.length gc]] y fun e w' => e = .returned (.bool (fReads a b)) ∧ Nw y w') := fun y u => Sub_c _ _ a b y (HG.out.upd u) (HA.out.nw u) (HB.out.nw u)
  have hbo : Hid (∀ y, Nw W y → Calls Tryz.prog 19 #[.agg #[.int .i64 a.kind, .slice fa a.fs.length fc], .agg #[.int .i64 b.kind, .slice ga b.fs.length gc]] y fun e w' => e = .returned (.bool (fReads a b && fReads b a)) ∧ Nw y w') := fun y u => Both_c _ _ a b y (HG.out.upd u) (HA.out.nw u) (HB.out.nw u)
  have hba : Hid (∀ y, Nw W y → Calls Tryz.prog 17 #[.agg #[.int .i64 b.kind, .slice ga b.fs.length gc], .agg #[.int .i64 a.kind, .slice fa a.fs.length fc]] y fun e w' => e = .returned (.bool (fReads b a)) ∧ Nw y w') := fun y u => Reads_c _ _ b a y (HG.out.upd u) (HB.out.nw u) (HA.out.nw u)
  have hrA : Hid (∀ y, Nw W y → Calls Tryz.prog 22 #[.agg #[.int .i64 a.kind, .slice fa a.fs.length fc]] y fun e w' => e = .returned (.bool (rightTy 4 a)) ∧ Nw y w') := fun y u => types_right_c _ a y (HG.out.upd u) (HA.out.nw u)
  have hrB : Hid (∀ y, Nw W y → Calls Tryz.prog 22 #[.agg #[.int .i64 b.kind, .slice ga b.fs.length gc]] y fun e w' => e = .returned (.bool (rightTy 4 b)) ∧ Nw y w') := fun y u => types_right_c _ b y (HG.out.upd u) (HB.out.nw u)
  cases h1 : rightTy 4 a with
  | false =>
    have er : fReads a b = false := by unfold fReads; rw [h1]; rfl
    have hfw : fWit a b = (Fm.noV, false) := by unfold fWit; rw [if_neg (by rw [h1]; simp)]
    obtain ⟨zv, hzv⟩ : ∃ zv, zv = Fm.noV := ⟨_, rfl⟩
    rw [← hzv] at hfw
    rw [hfw] at hwi
    rw [h1] at hrA
    rw [er]
    clear hfw hzv h1
    go_wp2_with fail
    -- Read's answer in a box: at U5 (HU) by the contract hwi: the box's world wa, its facts HBwa HVwa HUwa, of the value zv
    (with_reducible refine ((hwi).out).mono ?_)
    rintro _ z1 ⟨xn, xv, rfl, HX⟩
    have hxn : ∃ xa xc, xn = .slice xa (zv).names.length xc := by obtain ⟨a, c, h, -⟩ := HX.out.1.names; exact ⟨a, c, h⟩
    have hxv : ∃ xa xc, xv = .slice xa (zv).vals.length xc := by obtain ⟨a, c, h, -⟩ := HX.out.1.vals; exact ⟨a, c, h⟩
    obtain ⟨xawa, xcwa, rfl⟩ := hxn
    obtain ⟨yawa, ycwa, rfl⟩ := hxv
    have n2 := nw_alloc z1 (.cells #[.int .i64 (zv).kind, .int .i64 (zv).n, .slice xawa (zv).names.length xcwa, .slice yawa (zv).vals.length ycwa] tVl)
    have b2 := heap_new z1 (.cells #[.int .i64 (zv).kind, .int .i64 (zv).n, .slice xawa (zv).names.length xcwa, .slice yawa (zv).vals.length ycwa] tVl)
    obtain ⟨wa, hwa⟩ : ∃ y, y = z1.alloc (.cells #[.int .i64 (zv).kind, .int .i64 (zv).n, .slice xawa (zv).names.length xcwa, .slice yawa (zv).vals.length ycwa] tVl) := ⟨_, rfl⟩
    rw [← hwa] at n2 b2
    have HZ := Lib.hid hwa
    have HSwa := Lib.hid (HX.out.2.trans n2)
    have HUwa := Lib.hid ((U5).out.trans HSwa.out)
    have HVwa := Lib.hid (HX.out.1.nw n2)
    have HBwa := Lib.hid b2
    clear HX n2 b2 hwa
    go_upto_region 6 with fail
    rw [← HZ.out]
    clear HZ
    obtain ⟨qwa, hq⟩ : ∃ q, q = z1.heap.size := ⟨_, rfl⟩
    rw [← hq] at HBwa
    rw [← hq]
    clear hq
    clear x0 x1 x2 x3 z0 z1' z2' z3'
    have hc := Lib.hid ((hrA).out (wa) (HUwa).out)
    -- the cells of the boxes at wa
    obtain ⟨⟨x0, x1⟩, ⟨x2, x3⟩, z0, z1', z2', z3'⟩ := HC.out (wa) (HUwa).out
    go_wp2_with fail
    (with_reducible refine (hc.out).mono ?_)
    rintro _ y6 ⟨rfl, u9⟩
    have Uy6 := Lib.hid ((HUwa).out.trans u9)
    clear u9 hc
    clear x0 x1 x2 x3 z0 z1' z2' z3'
    -- not both right: fReads false, no witness; y6: after Right(s) the world, Uy6 its step
    rw [er] at hsb hbo
    have hc := Lib.hid ((hsb).out (y6) (Uy6).out)
    -- the cells of the boxes at y6
    obtain ⟨⟨x0, x1⟩, ⟨x2, x3⟩, z0, z1', z2', z3'⟩ := HC.out (y6) (Uy6).out
    go_wp2_with fail
    (with_reducible refine (hc.out).mono ?_)
    rintro _ y7 ⟨rfl, u9⟩
    have Uy7 := Lib.hid ((Uy6).out.trans u9)
    clear u9 hc
    clear x0 x1 x2 x3 z0 z1' z2' z3'
    have hbo' : Hid (∀ y, Nw W y → Calls Tryz.prog 19 #[.agg #[.int .i64 a.kind, .slice fa a.fs.length fc], .agg #[.int .i64 b.kind, .slice ga b.fs.length gc]] y fun e w' => e = .returned (.bool false) ∧ Nw y w') := hbo.out
    have hc := Lib.hid ((hbo').out (y7) (Uy7).out)
    -- the cells of the boxes at y7
    obtain ⟨⟨x0, x1⟩, ⟨x2, x3⟩, z0, z1', z2', z3'⟩ := HC.out (y7) (Uy7).out
    go_wp2_with fail
    (with_reducible refine (hc.out).mono ?_)
    rintro _ y8 ⟨rfl, u9⟩
    have Uy8 := Lib.hid ((Uy7).out.trans u9)
    clear u9 hc
    clear x0 x1 x2 x3 z0 z1' z2' z3'
    go_wp2_with fail
    go_ret
    exact ⟨rfl, HN.out.trans Uy8.out⟩
  | true =>
  cases h2 : rightTy 4 b with
  | false =>
    have er : fReads a b = false := by unfold fReads; rw [h2]; simp
    have hfw : fWit a b = (Fm.noV, false) := by unfold fWit; rw [if_neg (by rw [h2]; simp)]
    obtain ⟨zv, hzv⟩ : ∃ zv, zv = Fm.noV := ⟨_, rfl⟩
    rw [← hzv] at hfw
    rw [hfw] at hwi
    rw [h1] at hrA
    rw [h2] at hrB
    rw [er]
    clear hfw hzv h1 h2
    go_wp2_with fail
    -- Read's answer in a box: at U5 (HU) by the contract hwi: the box's world wa, its facts HBwa HVwa HUwa, of the value zv
    (with_reducible refine ((hwi).out).mono ?_)
    rintro _ z1 ⟨xn, xv, rfl, HX⟩
    have hxn : ∃ xa xc, xn = .slice xa (zv).names.length xc := by obtain ⟨a, c, h, -⟩ := HX.out.1.names; exact ⟨a, c, h⟩
    have hxv : ∃ xa xc, xv = .slice xa (zv).vals.length xc := by obtain ⟨a, c, h, -⟩ := HX.out.1.vals; exact ⟨a, c, h⟩
    obtain ⟨xawa, xcwa, rfl⟩ := hxn
    obtain ⟨yawa, ycwa, rfl⟩ := hxv
    have n2 := nw_alloc z1 (.cells #[.int .i64 (zv).kind, .int .i64 (zv).n, .slice xawa (zv).names.length xcwa, .slice yawa (zv).vals.length ycwa] tVl)
    have b2 := heap_new z1 (.cells #[.int .i64 (zv).kind, .int .i64 (zv).n, .slice xawa (zv).names.length xcwa, .slice yawa (zv).vals.length ycwa] tVl)
    obtain ⟨wa, hwa⟩ : ∃ y, y = z1.alloc (.cells #[.int .i64 (zv).kind, .int .i64 (zv).n, .slice xawa (zv).names.length xcwa, .slice yawa (zv).vals.length ycwa] tVl) := ⟨_, rfl⟩
    rw [← hwa] at n2 b2
    have HZ := Lib.hid hwa
    have HSwa := Lib.hid (HX.out.2.trans n2)
    have HUwa := Lib.hid ((U5).out.trans HSwa.out)
    have HVwa := Lib.hid (HX.out.1.nw n2)
    have HBwa := Lib.hid b2
    clear HX n2 b2 hwa
    go_upto_region 6 with fail
    rw [← HZ.out]
    clear HZ
    obtain ⟨qwa, hq⟩ : ∃ q, q = z1.heap.size := ⟨_, rfl⟩
    rw [← hq] at HBwa
    rw [← hq]
    clear hq
    clear x0 x1 x2 x3 z0 z1' z2' z3'
    have hc := Lib.hid ((hrA).out (wa) (HUwa).out)
    -- the cells of the boxes at wa
    obtain ⟨⟨x0, x1⟩, ⟨x2, x3⟩, z0, z1', z2', z3'⟩ := HC.out (wa) (HUwa).out
    go_wp2_with fail
    (with_reducible refine (hc.out).mono ?_)
    rintro _ y6 ⟨rfl, u9⟩
    have Uy6 := Lib.hid ((HUwa).out.trans u9)
    clear u9 hc
    clear x0 x1 x2 x3 z0 z1' z2' z3'
    have hc := Lib.hid ((hrB).out (y6) (Uy6).out)
    -- the cells of the boxes at y6
    obtain ⟨⟨x0, x1⟩, ⟨x2, x3⟩, z0, z1', z2', z3'⟩ := HC.out (y6) (Uy6).out
    go_wp2_with fail
    (with_reducible refine (hc.out).mono ?_)
    rintro _ y9 ⟨rfl, u9⟩
    have Uy9 := Lib.hid ((Uy6).out.trans u9)
    clear u9 hc
    clear x0 x1 x2 x3 z0 z1' z2' z3'
    -- not both right: fReads false, no witness; y9: after Right(s) the world, Uy9 its step
    rw [er] at hsb hbo
    have hc := Lib.hid ((hsb).out (y9) (Uy9).out)
    -- the cells of the boxes at y9
    obtain ⟨⟨x0, x1⟩, ⟨x2, x3⟩, z0, z1', z2', z3'⟩ := HC.out (y9) (Uy9).out
    go_wp2_with fail
    (with_reducible refine (hc.out).mono ?_)
    rintro _ y7 ⟨rfl, u9⟩
    have Uy7 := Lib.hid ((Uy9).out.trans u9)
    clear u9 hc
    clear x0 x1 x2 x3 z0 z1' z2' z3'
    have hbo' : Hid (∀ y, Nw W y → Calls Tryz.prog 19 #[.agg #[.int .i64 a.kind, .slice fa a.fs.length fc], .agg #[.int .i64 b.kind, .slice ga b.fs.length gc]] y fun e w' => e = .returned (.bool false) ∧ Nw y w') := hbo.out
    have hc := Lib.hid ((hbo').out (y7) (Uy7).out)
    -- the cells of the boxes at y7
    obtain ⟨⟨x0, x1⟩, ⟨x2, x3⟩, z0, z1', z2', z3'⟩ := HC.out (y7) (Uy7).out
    go_wp2_with fail
    (with_reducible refine (hc.out).mono ?_)
    rintro _ y8 ⟨rfl, u9⟩
    have Uy8 := Lib.hid ((Uy7).out.trans u9)
    clear u9 hc
    clear x0 x1 x2 x3 z0 z1' z2' z3'
    go_wp2_with fail
    go_ret
    exact ⟨rfl, HN.out.trans Uy8.out⟩
  | true =>
  rw [h1] at hrA
  rw [h2] at hrB
  cases h3 : Fm.sub 4 a b with
  | false =>
    have er : fReads a b = false := by unfold fReads; rw [h3]; simp
    have hfw : fWit a b = (Fm.zero 4 a, true) := by unfold fWit; rw [if_pos ⟨h1, h2, h3⟩]
    obtain ⟨o1, o2, o3⟩ := Fm.zero_ok h1
    have hhz := has_iff.2 ⟨h1, o1, o2⟩
    have hrn : fRead b (Fm.writeF 4 a (Fm.zero 4 a)) = (Fm.noV, 34) := fRead_none h2 (by rw [Fm.read_write (Nat.le_refl _) h1 h2 o1 o2 o3, if_neg (by rw [h3]; simp)])
    have HWL := Lib.hid (Nat.le_trans (Fm.write_len (Nat.le_refl _) h1 o3) Fm.W4)
    have HWZ := Lib.hid (fWrite_has hhz)
    have HHZ := Lib.hid hhz
    have HRN := Lib.hid hrn
    rw [hfw] at hwi
    rw [er]
    clear hfw h1 h2 h3 o1 o2 o3 hhz hrn
    generalize Fm.writeF 4 a (Fm.zero 4 a) = sw at *
    generalize Fm.zero 4 a = zv at *
    rw [er] at hsb hbo
    have hbo' : Hid (∀ y, Nw W y → Calls Tryz.prog 19 #[.agg #[.int .i64 a.kind, .slice fa a.fs.length fc], .agg #[.int .i64 b.kind, .slice ga b.fs.length gc]] y fun e w' => e = .returned (.bool false) ∧ Nw y w') := hbo.out
    go_wp2_with fail
    -- Read's answer in a box: at U5 (HU) by the contract hwi: the box's world wa, its facts HBwa HVwa HUwa, of the value zv
    (with_reducible refine ((hwi).out).mono ?_)
    rintro _ z1 ⟨xn, xv, rfl, HX⟩
    have hxn : ∃ xa xc, xn = .slice xa (zv).names.length xc := by obtain ⟨a, c, h, -⟩ := HX.out.1.names; exact ⟨a, c, h⟩
    have hxv : ∃ xa xc, xv = .slice xa (zv).vals.length xc := by obtain ⟨a, c, h, -⟩ := HX.out.1.vals; exact ⟨a, c, h⟩
    obtain ⟨xawa, xcwa, rfl⟩ := hxn
    obtain ⟨yawa, ycwa, rfl⟩ := hxv
    have n2 := nw_alloc z1 (.cells #[.int .i64 (zv).kind, .int .i64 (zv).n, .slice xawa (zv).names.length xcwa, .slice yawa (zv).vals.length ycwa] tVl)
    have b2 := heap_new z1 (.cells #[.int .i64 (zv).kind, .int .i64 (zv).n, .slice xawa (zv).names.length xcwa, .slice yawa (zv).vals.length ycwa] tVl)
    obtain ⟨wa, hwa⟩ : ∃ y, y = z1.alloc (.cells #[.int .i64 (zv).kind, .int .i64 (zv).n, .slice xawa (zv).names.length xcwa, .slice yawa (zv).vals.length ycwa] tVl) := ⟨_, rfl⟩
    rw [← hwa] at n2 b2
    have HZ := Lib.hid hwa
    have HSwa := Lib.hid (HX.out.2.trans n2)
    have HUwa := Lib.hid ((U5).out.trans HSwa.out)
    have HVwa := Lib.hid (HX.out.1.nw n2)
    have HBwa := Lib.hid b2
    clear HX n2 b2 hwa
    go_upto_region 6 with fail
    rw [← HZ.out]
    clear HZ
    obtain ⟨qwa, hq⟩ : ∃ q, q = z1.heap.size := ⟨_, rfl⟩
    rw [← hq] at HBwa
    rw [← hq]
    clear hq
    clear x0 x1 x2 x3 z0 z1' z2' z3'
    have Uwa := HUwa
    have Twa : Hid (Nw wa wa) := Upd.refl _ _
    -- as CALLW, the step from the box's world too: hrA the contract, from wa to y6
    have hc := Lib.hid ((hrA).out (wa) Uwa.out)
    -- the cells of the boxes at wa
    obtain ⟨⟨x0, x1⟩, ⟨x2, x3⟩, z0, z1', z2', z3'⟩ := HC.out (wa) (Uwa).out
    obtain ⟨t0, t1, t2, t3⟩ := cell4F (Nw.keep Twa.out HBwa.out)
    go_wp2_with fail
    (with_reducible refine (hc.out).mono ?_)
    rintro _ y6 ⟨rfl, u9⟩
    have Uy6 := Lib.hid (Uwa.out.trans u9)
    have Ty6 := Lib.hid (Twa.out.trans u9)
    clear u9 hc t0 t1 t2 t3
    clear x0 x1 x2 x3 z0 z1' z2' z3'
    -- as CALLW, the step from the box's world too: hrB the contract, from y6 to y9
    have hc := Lib.hid ((hrB).out (y6) Uy6.out)
    -- the cells of the boxes at y6
    obtain ⟨⟨x0, x1⟩, ⟨x2, x3⟩, z0, z1', z2', z3'⟩ := HC.out (y6) (Uy6).out
    obtain ⟨t0, t1, t2, t3⟩ := cell4F (Nw.keep Ty6.out HBwa.out)
    go_wp2_with fail
    (with_reducible refine (hc.out).mono ?_)
    rintro _ y9 ⟨rfl, u9⟩
    have Uy9 := Lib.hid (Uy6.out.trans u9)
    have Ty9 := Lib.hid (Ty6.out.trans u9)
    clear u9 hc t0 t1 t2 t3
    clear x0 x1 x2 x3 z0 z1' z2' z3'
    -- as CALLW, the step from the box's world too: hsb the contract, from y9 to y7
    have hc := Lib.hid ((hsb).out (y9) Uy9.out)
    -- the cells of the boxes at y9
    obtain ⟨⟨x0, x1⟩, ⟨x2, x3⟩, z0, z1', z2', z3'⟩ := HC.out (y9) (Uy9).out
    obtain ⟨t0, t1, t2, t3⟩ := cell4F (Nw.keep Ty9.out HBwa.out)
    go_wp2_with fail
    (with_reducible refine (hc.out).mono ?_)
    rintro _ y7 ⟨rfl, u9⟩
    have Uy7 := Lib.hid (Uy9.out.trans u9)
    have Ty7 := Lib.hid (Ty9.out.trans u9)
    clear u9 hc t0 t1 t2 t3
    clear x0 x1 x2 x3 z0 z1' z2' z3'
    -- as CALLW, the step from the box's world too: hbo' the contract, from y7 to y8
    have hc := Lib.hid ((hbo').out (y7) Uy7.out)
    -- the cells of the boxes at y7
    obtain ⟨⟨x0, x1⟩, ⟨x2, x3⟩, z0, z1', z2', z3'⟩ := HC.out (y7) (Uy7).out
    obtain ⟨t0, t1, t2, t3⟩ := cell4F (Nw.keep Ty7.out HBwa.out)
    go_wp2_with fail
    (with_reducible refine (hc.out).mono ?_)
    rintro _ y8 ⟨rfl, u9⟩
    have Uy8 := Lib.hid (Uy7.out.trans u9)
    have Ty8 := Lib.hid (Ty7.out.trans u9)
    clear u9 hc t0 t1 t2 t3
    clear x0 x1 x2 x3 z0 z1' z2' z3'
    have hw1 : Hid (∀ y, Nw W y → Nw wa y → Calls Tryz.prog 10 #[.agg #[.int .i64 a.kind, .slice fa a.fs.length fc], .agg #[.int .i64 zv.kind, .int .i64 zv.n, .slice xawa zv.names.length xcwa, .slice yawa zv.vals.length ycwa]] y fun e w' => e = .returned (.tuple #[.string ⟨sw.toArray⟩, .int .i64 0]) ∧ Nw y w') := fun y u t => by
      have := Write_c _ _ a _ _ zv y (HG.out.upd u) (HA.out.nw u) (HVwa.out.nw t)
      rw [HWZ.out] at this
      exact this
    have hw2 : Hid (∀ y, Nw W y → Calls Tryz.prog 10 #[.agg #[.int .i64 a.kind, .slice fa a.fs.length fc], .agg #[.int .i64 zv.kind, .int .i64 zv.n, .slice xawa zv.names.length xcwa, .slice yawa zv.vals.length ycwa]] y8 fun e w' => e = .returned (.tuple #[.string ⟨sw.toArray⟩, .int .i64 0]) ∧ Nw y8 w') := fun y u => hw1.out y8 Uy8.out Ty8.out
    have hc := Lib.hid (hw1.out y8 Uy8.out Ty8.out)
    -- the cells of the boxes at y8
    obtain ⟨⟨x0, x1⟩, ⟨x2, x3⟩, z0, z1', z2', z3'⟩ := HC.out (y8) (Uy8).out
    obtain ⟨t0, t1, t2, t3⟩ := cell4F (Nw.keep Ty8.out HBwa.out)
    go_wp2_with fail
    (with_reducible refine (hc.out).mono ?_)
    rintro _ ya ⟨rfl, u9⟩
    have Uya := Lib.hid (Uy8.out.trans u9)
    have Tya := Lib.hid (Ty8.out.trans u9)
    clear u9 hc t0 t1 t2 t3 hw1 hw2
    clear x0 x1 x2 x3 z0 z1' z2' z3'
    obtain ⟨pv, hpv⟩ : ∃ pv, pv = Fm.noV := ⟨_, rfl⟩
    rw [← hpv] at HRN
    clear hpv
    have hr9 : Hid (Calls Tryz.prog 12 #[.agg #[.int .i64 b.kind, .slice ga b.fs.length gc], .string ⟨sw.toArray⟩] ya fun e w' => ∃ xn xv, e = .returned (.tuple #[.agg #[.int .i64 pv.kind, .int .i64 pv.n, xn, xv], .int .i64 34]) ∧ Hid (VlAt (fun j => ya.heap.size ≤ j) w' xn xv pv ∧ Nw ya w')) := by
      have := Read_c _ b sw ya (HG.out.upd Uya.out) (HB.out.nw Uya.out) (by have := HWL.out; omega)
      rw [HRN.out] at this
      exact this
    -- the cells of the boxes at ya
    obtain ⟨⟨x0, x1⟩, ⟨x2, x3⟩, z0, z1', z2', z3'⟩ := HC.out (ya) (Uya).out
    go_wp2_with fail
    -- Read's answer in a box: at Uya (HU) by the contract hr9: the box's world wb, its facts HBwb HVwb HUwb, of the value pv
    (with_reducible refine ((hr9).out).mono ?_)
    rintro _ z1 ⟨xn, xv, rfl, HX⟩
    have hxn : ∃ xa xc, xn = .slice xa (pv).names.length xc := by obtain ⟨a, c, h, -⟩ := HX.out.1.names; exact ⟨a, c, h⟩
    have hxv : ∃ xa xc, xv = .slice xa (pv).vals.length xc := by obtain ⟨a, c, h, -⟩ := HX.out.1.vals; exact ⟨a, c, h⟩
    obtain ⟨xawb, xcwb, rfl⟩ := hxn
    obtain ⟨yawb, ycwb, rfl⟩ := hxv
    have n2 := nw_alloc z1 (.cells #[.int .i64 (pv).kind, .int .i64 (pv).n, .slice xawb (pv).names.length xcwb, .slice yawb (pv).vals.length ycwb] tVl)
    have b2 := heap_new z1 (.cells #[.int .i64 (pv).kind, .int .i64 (pv).n, .slice xawb (pv).names.length xcwb, .slice yawb (pv).vals.length ycwb] tVl)
    obtain ⟨wb, hwb⟩ : ∃ y, y = z1.alloc (.cells #[.int .i64 (pv).kind, .int .i64 (pv).n, .slice xawb (pv).names.length xcwb, .slice yawb (pv).vals.length ycwb] tVl) := ⟨_, rfl⟩
    rw [← hwb] at n2 b2
    have HZ := Lib.hid hwb
    have HSwb := Lib.hid (HX.out.2.trans n2)
    have HUwb := Lib.hid ((Uya).out.trans HSwb.out)
    have HVwb := Lib.hid (HX.out.1.nw n2)
    have HBwb := Lib.hid b2
    clear HX n2 b2 hwb
    go_upto_region 12 with fail
    rw [← HZ.out]
    clear HZ
    obtain ⟨qwb, hq⟩ : ∃ q, q = z1.heap.size := ⟨_, rfl⟩
    rw [← hq] at HBwb
    rw [← hq]
    clear hq
    clear x0 x1 x2 x3 z0 z1' z2' z3'
    have Twb := Lib.hid (Tya.out.trans HSwb.out)
    have hh : Hid (Calls Tryz.prog 21 #[.agg #[.int .i64 a.kind, .slice fa a.fs.length fc], .agg #[.int .i64 zv.kind, .int .i64 zv.n, .slice xawa zv.names.length xcwa, .slice yawa zv.vals.length ycwa]] wb fun e w' => e = .returned (.bool true) ∧ Nw wb w') := by
      have := has_c _ _ a _ _ zv wb (HG.out.upd HUwb.out) (HA.out.nw HUwb.out) (HVwa.out.nw Twb.out)
      rw [HHZ.out] at this
      exact this
    -- the cells of the boxes at wb
    obtain ⟨⟨x0, x1⟩, ⟨x2, x3⟩, z0, z1', z2', z3'⟩ := HC.out (wb) (HUwb).out
    obtain ⟨t0, t1, t2, t3⟩ := cell4F (Nw.keep Twb.out HBwa.out)
    go_wp2_with fail
    (with_reducible refine (hh.out).mono ?_)
    rintro _ yf ⟨rfl, uf⟩
    have HF := Lib.hid ((HN.out.trans HUwb.out).trans uf)
    clear uf t0 t1 t2 t3
    clear x0 x1 x2 x3 z0 z1' z2' z3'
    go_wp2_with fail
    go_ret
    exact ⟨rfl, HF.out⟩
  | true =>
    have er : fReads a b = true := reads_iff.2 ⟨h1, h2, h3⟩
    have hfw : fWit a b = (Fm.noV, false) := by unfold fWit; rw [if_neg (by rw [h3]; simp)]
    obtain ⟨zv, hzv⟩ : ∃ zv, zv = Fm.noV := ⟨_, rfl⟩
    rw [← hzv] at hfw
    rw [hfw] at hwi
    rw [er]
    rw [er] at hsb hbo
    have hbo' : Hid (∀ y, Nw W y → Calls Tryz.prog 19 #[.agg #[.int .i64 a.kind, .slice fa a.fs.length fc], .agg #[.int .i64 b.kind, .slice ga b.fs.length gc]] y fun e w' => e = .returned (.bool (fReads b a)) ∧ Nw y w') := hbo.out
    have H1 := Lib.hid h1
    have H2 := Lib.hid h2
    have H3 := Lib.hid h3
    clear hfw hzv h1 h2 h3
    obtain ⟨rba, hrba⟩ : ∃ r, r = fReads b a := ⟨_, rfl⟩
    rw [← hrba] at hbo' hba
    clear hrba hbo
    go_wp2_with fail
    -- Read's answer in a box: at U5 (HU) by the contract hwi: the box's world wa, its facts HBwa HVwa HUwa, of the value zv
    (with_reducible refine ((hwi).out).mono ?_)
    rintro _ z1 ⟨xn, xv, rfl, HX⟩
    have hxn : ∃ xa xc, xn = .slice xa (zv).names.length xc := by obtain ⟨a, c, h, -⟩ := HX.out.1.names; exact ⟨a, c, h⟩
    have hxv : ∃ xa xc, xv = .slice xa (zv).vals.length xc := by obtain ⟨a, c, h, -⟩ := HX.out.1.vals; exact ⟨a, c, h⟩
    obtain ⟨xawa, xcwa, rfl⟩ := hxn
    obtain ⟨yawa, ycwa, rfl⟩ := hxv
    have n2 := nw_alloc z1 (.cells #[.int .i64 (zv).kind, .int .i64 (zv).n, .slice xawa (zv).names.length xcwa, .slice yawa (zv).vals.length ycwa] tVl)
    have b2 := heap_new z1 (.cells #[.int .i64 (zv).kind, .int .i64 (zv).n, .slice xawa (zv).names.length xcwa, .slice yawa (zv).vals.length ycwa] tVl)
    obtain ⟨wa, hwa⟩ : ∃ y, y = z1.alloc (.cells #[.int .i64 (zv).kind, .int .i64 (zv).n, .slice xawa (zv).names.length xcwa, .slice yawa (zv).vals.length ycwa] tVl) := ⟨_, rfl⟩
    rw [← hwa] at n2 b2
    have HZ := Lib.hid hwa
    have HSwa := Lib.hid (HX.out.2.trans n2)
    have HUwa := Lib.hid ((U5).out.trans HSwa.out)
    have HVwa := Lib.hid (HX.out.1.nw n2)
    have HBwa := Lib.hid b2
    clear HX n2 b2 hwa
    go_upto_region 6 with fail
    rw [← HZ.out]
    clear HZ
    obtain ⟨qwa, hq⟩ : ∃ q, q = z1.heap.size := ⟨_, rfl⟩
    rw [← hq] at HBwa
    rw [← hq]
    clear hq
    clear x0 x1 x2 x3 z0 z1' z2' z3'
    have hc := Lib.hid ((hrA).out (wa) (HUwa).out)
    -- the cells of the boxes at wa
    obtain ⟨⟨x0, x1⟩, ⟨x2, x3⟩, z0, z1', z2', z3'⟩ := HC.out (wa) (HUwa).out
    go_wp2_with fail
    (with_reducible refine (hc.out).mono ?_)
    rintro _ y6 ⟨rfl, u9⟩
    have Uy6 := Lib.hid ((HUwa).out.trans u9)
    clear u9 hc
    clear x0 x1 x2 x3 z0 z1' z2' z3'
    have hc := Lib.hid ((hrB).out (y6) (Uy6).out)
    -- the cells of the boxes at y6
    obtain ⟨⟨x0, x1⟩, ⟨x2, x3⟩, z0, z1', z2', z3'⟩ := HC.out (y6) (Uy6).out
    go_wp2_with fail
    (with_reducible refine (hc.out).mono ?_)
    rintro _ y9 ⟨rfl, u9⟩
    have Uy9 := Lib.hid ((Uy6).out.trans u9)
    clear u9 hc
    clear x0 x1 x2 x3 z0 z1' z2' z3'
    have hc := Lib.hid ((hsb).out (y9) (Uy9).out)
    -- the cells of the boxes at y9
    obtain ⟨⟨x0, x1⟩, ⟨x2, x3⟩, z0, z1', z2', z3'⟩ := HC.out (y9) (Uy9).out
    go_wp2_with fail
    (with_reducible refine (hc.out).mono ?_)
    rintro _ y7 ⟨rfl, u9⟩
    have Uy7 := Lib.hid ((Uy9).out.trans u9)
    clear u9 hc
    clear x0 x1 x2 x3 z0 z1' z2' z3'
    have hc := Lib.hid ((hbo').out (y7) (Uy7).out)
    -- the cells of the boxes at y7
    obtain ⟨⟨x0, x1⟩, ⟨x2, x3⟩, z0, z1', z2', z3'⟩ := HC.out (y7) (Uy7).out
    go_wp2_with fail
    (with_reducible refine (hc.out).mono ?_)
    rintro _ y8 ⟨rfl, u9⟩
    have Uy8 := Lib.hid ((Uy7).out.trans u9)
    clear u9 hc
    clear x0 x1 x2 x3 z0 z1' z2' z3'
    have hc := Lib.hid ((hba).out (y8) (Uy8).out)
    -- the cells of the boxes at y8
    obtain ⟨⟨x0, x1⟩, ⟨x2, x3⟩, z0, z1', z2', z3'⟩ := HC.out (y8) (Uy8).out
    go_wp2_with fail
    (with_reducible refine (hc.out).mono ?_)
    rintro _ ya ⟨rfl, u9⟩
    have Uya := Lib.hid ((Uy8).out.trans u9)
    clear u9 hc
    clear x0 x1 x2 x3 z0 z1' z2' z3'
    have hhv : Hid (Calls Tryz.prog 21 #[.agg #[.int .i64 a.kind, .slice fa a.fs.length fc], .agg #[.int .i64 v.kind, .int .i64 v.n, .slice na v.names.length nc, .slice va v.vals.length vc]] ya fun e w' => e = .returned (.bool (Fm.has a v)) ∧ Nw ya w') := has_c P _ a _ _ v ya (HG.out.upd Uya.out) (HA.out.nw Uya.out) (HV.out.nw Uya.out)
    -- the cells of the boxes at ya
    obtain ⟨⟨x0, x1⟩, ⟨x2, x3⟩, z0, z1', z2', z3'⟩ := HC.out (ya) (Uya).out
    go_wp2_with fail
    (with_reducible refine (hhv.out).mono ?_)
    rintro _ yb ⟨rfl, u9⟩
    have Uyb := Lib.hid (Uya.out.trans u9)
    clear u9 hhv
    clear x0 x1 x2 x3 z0 z1' z2' z3'
    cases h4 : Fm.has a v with
    | false =>
      go_wp2_with fail
      go_ret
      exact ⟨rfl, HN.out.trans Uyb.out⟩
    | true =>
    have hok := HV.out.okI 4
    obtain ⟨-, hrv, hfit⟩ := has_iff.1 h4
    have hfb := Fm.sub_fits H3.out hfit
    obtain ⟨p1, p2, p3, p4, p5, p6⟩ := Fm.proj_ok H2.out hrv hfb hok
    have HBP := Lib.hid (has_iff.2 ⟨H2.out, p1, p2⟩)
    have HR1 := Lib.hid (back_read h4 hok H2.out H3.out)
    have HL1 := Lib.hid (Nat.le_trans (Fm.write_len (Nat.le_refl _) H1.out hok) Fm.W4)
    have HP4 := Lib.hid p4
    have HP5 := Lib.hid p5
    have hwr := Lib.hid (Write_c P _ a _ _ v yb (HG.out.upd Uyb.out) (HA.out.nw Uyb.out) (HV.out.nw Uyb.out))
    rw [fWrite_has h4] at hwr
    clear p1 p2 p3 p4 p5 p6 hok hrv hfit hfb
    generalize Fm.proj 4 b v = pb at *
    generalize Fm.writeF 4 a v = sa at *
    -- the cells of the boxes at yb
    obtain ⟨⟨x0, x1⟩, ⟨x2, x3⟩, z0, z1', z2', z3'⟩ := HC.out (yb) (Uyb).out
    go_wp2_with fail
    (with_reducible refine (hwr.out).mono ?_)
    rintro _ yc ⟨rfl, u9⟩
    have Uyc := Lib.hid (Uyb.out.trans u9)
    clear u9 hwr
    clear x0 x1 x2 x3 z0 z1' z2' z3'
    have hr2 : Hid (Calls Tryz.prog 12 #[.agg #[.int .i64 b.kind, .slice ga b.fs.length gc], .string ⟨sa.toArray⟩] yc fun e w' => ∃ xn xv, e = .returned (.tuple #[.agg #[.int .i64 pb.kind, .int .i64 pb.n, xn, xv], .int .i64 0]) ∧ Hid (VlAt (fun j => yc.heap.size ≤ j) w' xn xv pb ∧ Nw yc w')) := by
      have := Read_c _ b sa yc (HG.out.upd Uyc.out) (HB.out.nw Uyc.out) (by have := HL1.out; omega)
      rw [HR1.out] at this
      exact this
    -- the cells of the boxes at yc
    obtain ⟨⟨x0, x1⟩, ⟨x2, x3⟩, z0, z1', z2', z3'⟩ := HC.out (yc) (Uyc).out
    go_wp2_with fail
    -- Read's answer in a box: at Uyc (HU) by the contract hr2: the box's world wb, its facts HBwb HVwb HUwb, of the value pb
    (with_reducible refine ((hr2).out).mono ?_)
    rintro _ z1 ⟨xn, xv, rfl, HX⟩
    have hxn : ∃ xa xc, xn = .slice xa (pb).names.length xc := by obtain ⟨a, c, h, -⟩ := HX.out.1.names; exact ⟨a, c, h⟩
    have hxv : ∃ xa xc, xv = .slice xa (pb).vals.length xc := by obtain ⟨a, c, h, -⟩ := HX.out.1.vals; exact ⟨a, c, h⟩
    obtain ⟨xawb, xcwb, rfl⟩ := hxn
    obtain ⟨yawb, ycwb, rfl⟩ := hxv
    have n2 := nw_alloc z1 (.cells #[.int .i64 (pb).kind, .int .i64 (pb).n, .slice xawb (pb).names.length xcwb, .slice yawb (pb).vals.length ycwb] tVl)
    have b2 := heap_new z1 (.cells #[.int .i64 (pb).kind, .int .i64 (pb).n, .slice xawb (pb).names.length xcwb, .slice yawb (pb).vals.length ycwb] tVl)
    obtain ⟨wb, hwb⟩ : ∃ y, y = z1.alloc (.cells #[.int .i64 (pb).kind, .int .i64 (pb).n, .slice xawb (pb).names.length xcwb, .slice yawb (pb).vals.length ycwb] tVl) := ⟨_, rfl⟩
    rw [← hwb] at n2 b2
    have HZ := Lib.hid hwb
    have HSwb := Lib.hid (HX.out.2.trans n2)
    have HUwb := Lib.hid ((Uyc).out.trans HSwb.out)
    have HVwb := Lib.hid (HX.out.1.nw n2)
    have HBwb := Lib.hid b2
    clear HX n2 b2 hwb
    go_upto_region 17 with fail
    rw [← HZ.out]
    clear HZ
    obtain ⟨qwb, hq⟩ : ∃ q, q = z1.heap.size := ⟨_, rfl⟩
    rw [← hq] at HBwb
    rw [← hq]
    clear hq
    clear x0 x1 x2 x3 z0 z1' z2' z3'
    have hh2 := Lib.hid (has_c _ _ b _ _ pb wb (HG.out.upd HUwb.out) (HB.out.nw HUwb.out) HVwb.out)
    rw [HBP.out] at hh2
    -- the cells of the boxes at wb
    obtain ⟨⟨x0, x1⟩, ⟨x2, x3⟩, z0, z1', z2', z3'⟩ := HC.out (wb) (HUwb).out
    obtain ⟨t0, t1, t2, t3⟩ := cell4F HBwb.out
    go_wp2_with fail
    (with_reducible refine (hh2.out).mono ?_)
    rintro _ yd ⟨rfl, u9⟩
    have Uyd := Lib.hid (HUwb.out.trans u9)
    have Tyd := Lib.hid u9
    clear u9 hh2 t0 t1 t2 t3
    clear x0 x1 x2 x3 z0 z1' z2' z3'
    have hex := Lib.hid (exact_c _ 4 b _ pb _ _ yd HP4.out (HB.out.nw Uyd.out) (HVwb.out.nw Tyd.out))
    -- the cells of the boxes at yd
    obtain ⟨⟨x0, x1⟩, ⟨x2, x3⟩, z0, z1', z2', z3'⟩ := HC.out (yd) (Uyd).out
    obtain ⟨t0, t1, t2, t3⟩ := cell4F (Nw.keep Tyd.out HBwb.out)
    go_wp2_with fail
    (with_reducible refine (hex.out).mono ?_)
    rintro _ ye ⟨rfl, u9⟩
    have Uye := Lib.hid (Uyd.out.trans u9)
    have Tye := Lib.hid (Tyd.out.trans u9)
    clear u9 hex t0 t1 t2 t3
    clear x0 x1 x2 x3 z0 z1' z2' z3'
    have hag := Lib.hid (agrees_c P _ 4 v pb _ _ _ _ ye HP5.out (HV.out.nw Uye.out) (HVwb.out.nw Tye.out))
    -- the cells of the boxes at ye
    obtain ⟨⟨x0, x1⟩, ⟨x2, x3⟩, z0, z1', z2', z3'⟩ := HC.out (ye) (Uye).out
    obtain ⟨t0, t1, t2, t3⟩ := cell4F (Nw.keep Tye.out HBwb.out)
    go_wp2_with fail
    (with_reducible refine (hag.out).mono ?_)
    rintro _ yf ⟨rfl, u9⟩
    have HF := Lib.hid ((HN.out.trans Uye.out).trans u9)
    clear u9 hag t0 t1 t2 t3
    clear x0 x1 x2 x3 z0 z1' z2' z3'
    go_wp2_with fail
    go_ret
    exact ⟨rfl, HF.out⟩
end Go.Proofs.YtcelfjoopagmlaaGreatDoor
namespace Go.Proofs.YtcelfjoopagmlaaGreatDoor
open Go.ChangeShapes Go.WideShapes Go.ChangeAt Go.RowKit
set_option linter.unusedVariables false
set_option linter.unusedSimpArgs false

theorem own : ownKnob Tryz.prog.godebug = none := by kernel_rfl
theorem laidOut : laidOutB Tryz.prog = true := by kernel_rfl
def laidAll {H : Type} : List (String × DataW H) := [("math/bits.deBruijn32tab", Rows.laid_math_bits_deBruijn32tab), ("math/bits.deBruijn64tab", Rows.laid_math_bits_deBruijn64tab), ("internal/strconv.uint64pow10", Rows.laid_internal_strconv_uint64pow10), ("strconv.ErrRange", Rows.laid_strconv_ErrRange), ("strconv.ErrSyntax", Rows.laid_strconv_ErrSyntax)]
theorem tTab : (Tryz.prog.globals[0]?).map (·.type) = some 133 := by kernel_rfl
theorem tErr1 : (Tryz.prog.globals[3]?).map (·.type) = some 65 := by kernel_rfl
theorem tErr2 : (Tryz.prog.globals[2]?).map (·.type) = some 65 := by kernel_rfl
theorem cTab : Tryz.prog.cellsOf 133 = 20 := by kernel_rfl
theorem cU64 : Tryz.prog.cellsOf 121 = 1 := by kernel_rfl
theorem pow_eq : (Rows.laid_internal_strconv_uint64pow10 : DataW Unit) = Lib.tabData .u64 Lib.pow10Tab := by rfl
theorem rowErr : ∀ u, Tryz.prog.typeName? 3 u = some "*errors.errorString" → u = 155 :=
  fun u h => typeName_ptr_named (nm := "errors.errorString") (by kernel_rfl) (by kernel_rfl) (by decide) u h
theorem lt_of_var {W : World} {n : String} {g : Nat} {cs : Array Value} (hg : Tryz.prog.globalNamed n = some g) (h : W.var? Tryz.prog n = some cs) : g < W.heap.size := by
  simp only [World.var?, hg, Option.bind_some] at h
  rcases Nat.lt_or_ge g W.heap.size with h' | h'
  · exact h'
  · rw [Array.getElem?_eq_none h'] at h; cases h
theorem cErr : Tryz.prog.cellsOf 157 = 1 := by kernel_rfl
theorem cStr : Tryz.prog.cellsOf 9 = 1 := by kernel_rfl
theorem gl_of_laid {W : World} (h : laidMetH Tryz.prog laidAll W) : Gl W := by
  rw [MakeChecks.laidMetH_plain _ _ _ (by kernel_rfl)] at h
  have h1 := h.tail.tail
  have h2 := h1.tail
  have h3 := h2.tail
  have ht : Lib.TabIs Tryz.prog W "internal/strconv.uint64pow10" .u64 Lib.pow10Tab := by
    have h1' : laidMet Tryz.prog (("internal/strconv.uint64pow10", Lib.tabData .u64 Lib.pow10Tab) :: laidAll.tail.tail.tail) W := by rw [← pow_eq]; exact h1
    exact Lib.tabIs_of_head gTab tTab Tryz.underlying133 Tryz.underlying121 cU64 cTab h1'
  obtain ⟨a, s, hv, _⟩ := laid_sentinel h3 gSyn tErr2 Tryz.underlying65 rowErr Tryz.underlying155 Tryz.underlying157 rfl rfl Tryz.underlying9 cErr cStr
  obtain ⟨a', s', hv', _⟩ := laid_sentinel h2 gRng tErr1 Tryz.underlying65 rowErr Tryz.underlying155 Tryz.underlying157 rfl rfl Tryz.underlying9 cErr cStr
  have b1 := lt_of_var gTab ht
  have b2 := lt_of_var gSyn hv
  have b3 := lt_of_var gRng hv'
  exact ⟨by unfold nG; omega, ht, ⟨_, _, hv⟩, ⟨_, _, hv'⟩⟩
noncomputable def laidWorld (os : Os) : World := World.doorLaid Tryz.prog 400 os
end Go.Proofs.YtcelfjoopagmlaaGreatDoor
namespace Go.Proofs.YtcelfjoopagmlaaGreatDoor
open Go.ChangeShapes Go.WideShapes Go.ChangeAt Go.RowKit Go.Joins
set_option linter.unusedVariables false
set_option linter.unusedSimpArgs false

structure Val where
  kind : Int
  n : Int
  s : List UInt8
  l : List Int
  t : List (List UInt8)
/-- The cells cs are those of x. -/
def IsVal (hi : Nat) (w : World) (cs : List Value) (x : Val) : Prop :=
  ∃ vl vt, cs = [.int .i64 x.kind, .int .i64 x.n, .string ⟨x.s.toArray⟩, vl, vt] ∧ Sl 0 hi w vl (x.l.map (Value.int .i64)) ∧ Sl 0 hi w vt (x.t.map fun s => Value.string ⟨s.toArray⟩) ∧ I64 x.kind ∧ I64 x.n ∧ ∀ m ∈ x.l, I64 m
theorem IsVal.nw {hi : Nat} {w w' : World} {cs : List Value} {x : Val} (h : IsVal hi w cs x) (u : Nw w w') : IsVal hi w' cs x := by
  obtain ⟨vl, vt, h1, h2, h3, h4⟩ := h
  exact ⟨vl, vt, h1, h2.nw u, h3.nw u, h4⟩
def Vals (hi : Nat) (w : World) (v : Value) (l : List Val) : Prop :=
  ∃ xs, SlS 5 0 hi w v xs ∧ l.length = xs.length ∧ ∀ i (h1 : i < xs.length) (h2 : i < l.length), IsVal hi w xs[i] l[i]
theorem Vals.nw {hi : Nat} {w w' : World} {v : Value} {l : List Val} (h : Vals hi w v l) (u : Nw w w') : Vals hi w' v l := by
  obtain ⟨xs, h1, h2, h3⟩ := h
  exact ⟨xs, h1.nw u, h2, fun i a b => (h3 i a b).nw u⟩

section
variable {H : Type} {enc : TypeId × Value → H} {w : World} {base : Nat} {sp : Nat → Bool} {held : Bool} {n : Nat} {x : DataW H × List MemPlace}
end
end Go.Proofs.YtcelfjoopagmlaaGreatDoor
