/- The contract of the view's Bytes. Layer 8 in plain words: what a view knows only grows; the order in which its claims came does not matter. No program stands in this text. The contracts of the view's Copy and Read. The contracts of the reference's view: Bytes, Read. -/
import Derived.Test.YtagmlemlagbfkaaGreatDoorPkMTells26
import Derived.Test.YtagmlemlagbfkaaGreatDoorPkMTells0
import Derived.Test.YtagmlemlagbfkaaGreatDoorPkMTells7
import Derived.Test.YtagmlemlagbfkaaGreatDoorPkMTells31
namespace Go.Proofs.YtagmlemlagbfkaaGreatDoor
open Go.RowKit
set_option linter.unusedVariables false
set_option linter.unusedSimpArgs false
attribute [local irreducible] Calls

theorem items_take (L : List Bk.Sgn) (k : Nat) : (((L.take k).map Vw.itemE).flatten).length ≤ ((L.map Vw.itemE).flatten).length := by
  have h : (L.map Vw.itemE).flatten = ((L.take k).map Vw.itemE).flatten ++ ((L.drop k).map Vw.itemE).flatten := by rw [← List.flatten_append, ← List.map_append, List.take_append_drop]
  rw [h, List.length_append]; omega
theorem items_succ (L : List Bk.Sgn) (k : Nat) (h : k < L.length) : ((L.take (k + 1)).map Vw.itemE).flatten = ((L.take k).map Vw.itemE).flatten ++ Vw.itemE L[k] := by
  rw [List.take_succ_eq_append_getElem h, List.map_append, List.flatten_append]; simp
theorem item_le {s : Bk.Sgn} (hs : SgnOk s) (ht : s.text.length ≤ 100000) : (Vw.itemE s).length ≤ 100100 := by
  have i1 := itoa_le hs.m
  have i2 := itoa_le (n := (s.text.length : Int)) (by unfold I64; omega)
  unfold Vw.itemE Wire.numE
  split
  · simp only [Wire.textE, List.length_append, List.length_cons, List.length_nil]; omega
  · simp only [Wire.intE, Wire.textE, List.length_append, List.length_cons, List.length_nil]; omega
theorem items_le {L : List Bk.Sgn} (h : ∀ s ∈ L, SgnOk s ∧ s.text.length ≤ 100000) : ((L.map Vw.itemE).flatten).length ≤ 100100 * L.length := by
  induction L with
  | nil => simp
  | cons s L ih =>
    have h1 := item_le (h s (List.mem_cons_self ..)).1 (h s (List.mem_cons_self ..)).2
    have h2 := ih (fun x hx => h x (List.mem_cons_of_mem _ hx))
    rw [List.map_cons, List.flatten_cons, List.length_append, List.length_cons]
    omega
theorem ViewAt.laterK {B : Nat} {w : World} {r : ViewR} {rb : Nat} {key : Int} {L : List Bk.Sgn} (h : ViewAt B w r rb key L) : (∀ i : Later w, i.1.cell? ⟨r.vb, 1, none⟩ = some (.int .i64 key)) ∧ (∀ i : Later w, i.1.cell? ⟨r.vb, 2, none⟩ = some r.sv) :=
  ⟨fun i => (h.nw i.nw).cells.2.1, fun i => (h.nw i.nw).cells.2.2.1⟩
set_option maxHeartbeats 2000000 in
set_option maxRecDepth 100000 in
theorem bytes_v (B : Nat) (r : ViewR) (rb : Nat) (key : Int) (L : List Bk.Sgn) (w : World) (g : Gl w) (h : ViewAt B w r rb key L) (hs : ∀ s ∈ L, SgnOk s ∧ s.text.length ≤ 100000) (hL : L.length ≤ 900000) :
    Calls Tryz.prog 32 #[.pointer (some ⟨r.vb, 0, none⟩)] w fun e w' => e = .returned (.string ⟨(Vw.bytesOf key L).toArray⟩) ∧ Nw w w' := by
  have hgb := g.big
  have hkey : 0 ≤ key ∧ key < 200 := by have := h.key; unfold Bk.isKey at this; simpa using this
  have hI : I64 (L.length : Int) := by unfold I64; omega
  have hIk : I64 key := by unfold I64; omega
  have i1 := itoa_le hI
  have i2 := itoa_le hIk
  have hpre : (Wire.numE key ++ Wire.numE L.length).length ≤ 50 := by
    unfold Wire.numE
    rw [if_neg (by omega), if_neg (by omega)]
    simp only [Wire.intE, List.length_append, List.length_cons, List.length_nil]; omega
  have hn1 : (Wire.numE key).length ≤ 30 := by
    unfold Wire.numE
    rw [if_neg (by omega)]
    simp only [Wire.intE, List.length_append, List.length_cons, List.length_nil]; omega
  have hn2 : (Wire.numE (L.length : Int)).length ≤ 30 := by
    unfold Wire.numE
    rw [if_neg (by omega)]
    simp only [Wire.intE, List.length_append, List.length_cons, List.length_nil]; omega
  have htot : ((L.map Vw.itemE).flatten).length ≤ 100100000000 := by have := items_le hs; omega
  have Hbb := Lib.hid (fun k => Nat.le_trans (items_take L k) htot)
  have Hfin : Hid (Vw.bytesOf key L = (Wire.numE key ++ Wire.numE L.length) ++ (L.map Vw.itemE).flatten) := by show _ = _; rfl
  have hB0 := Bld.fresh w
  have n1 := nw_alloc w (.cells #[.pointer none, .slice none 0 0] 170)
  generalize hW : w.alloc (.cells #[.pointer none, .slice none 0 0] 170) = W at *
  have HW := Lib.hid hW
  have hWs : w.heap.size ≤ W.heap.size := n1.size
  have h1 := h.nw n1
  obtain ⟨a, cap, hsv⟩ := h.sslice
  obtain ⟨l1, l2⟩ := h1.laterK
  rw [hsv] at l2
  have gW := g.upd n1
  have QN := Lib.hid (fun (i : Later W) => Num_e key i.1 (gW.upd i.nw) hIk)
  have QL := Lib.hid (fun (i : Later W) => Num_e (L.length : Int) i.1 (gW.upd i.nw) hI)
  have HL9 := Lib.hid hL
  have Hs := Lib.hid hs
  have H := Lib.hid h
  have Hsv := Lib.hid hsv
  have HB0 := Lib.hid hB0
  clear hW hL hs h h1 hsv htot i1 i2 hB0 hkey
  have hW2 := fun pre : List UInt8 => pre
  go_enter Tryz.func32, Tryz.ntmps32
  go_wp2_with fail
  rw [HW.out]
  refine wp_region_nw_tail 12 (by kernel_rfl) (by kernel_rfl) ?_
  simp only [List.take_succ_cons, List.take_zero, List.drop_succ_cons, List.drop_zero]
  repeat (go_big_quiet_step ((go_at_call 98; first | exact later_call (QN.out _) | exact later_call (QL.out _))))
  refine wpQuiet_nil ?_
  intro w2 u2
  replace u2 := later_out u2
  have Bd := HB0.out.nw u2
  generalize hp : Wire.numE key ++ Wire.numE (L.length : Int) = pre at *
  have hap : (ByteArray.mk (Wire.numE key).toArray ++ ByteArray.mk (Wire.numE (L.length : Int)).toArray) = ByteArray.mk pre.toArray := by rw [bs_append, hp]
  have u2' := n1.trans u2
  go_wp2_with fail
  (with_reducible refine (WriteString_c w.heap.size w.heap.size [] _ pre (bs_list _) _ Bd (by simp; omega) u2'.size).mono ?_)
  rintro _ w3 ⟨rfl, B3, b3⟩
  have b3' : Below w.heap.size w w3 := (Nw.below u2').trans b3
  have hBk0 : Bld w.heap.size w.heap.size (pre ++ ((L.take 0).map Vw.itemE).flatten) w3 := by simpa using B3
  have u3 : Nw w w3 := Upd.of_below _ b3'
  have h3 := H.out.nw u3
  obtain ⟨_, _, c2, _⟩ := h3.cells
  rw [Hsv.out] at c2
  have Hr := sgn_sls H.out.sown
  rw [Hsv.out] at Hr
  obtain ⟨a', cap', e1, hm, ha⟩ := sgn_cells Hr
  obtain ⟨rfl, rfl⟩ : a = a' ∧ cap = cap' := by simpa using e1
  have Ha := Lib.hid ha
  have HBk0 := Lib.hid hBk0
  have Hb3 := Lib.hid b3'
  have hL9 := HL9.out
  clear ha e1 hBk0 B3 l1 l2 h3 hap hm Hr b3' b3
  go_wp2_with fail
  go_loopw [24] (fun i wr => ∃ k : Nat, k ≤ L.length ∧ i = .int .i64 k ∧ Bld w.heap.size w.heap.size (pre ++ ((L.take k).map Vw.itemE).flatten) wr ∧ Below w.heap.size w wr) (fun i _ => L.length - (intOf i).toNat)
  case atStart => exact ⟨0, Nat.zero_le _, rfl, HBk0.out, Hb3.out⟩
  case round =>
    obtain ⟨k, hk, rfl, hBk, bk⟩ := hrel
    have uk : Nw w wr := Upd.of_below _ bk
    have gk := g.upd uk
    have hbk := Hbb.out k
    by_cases hlt : k < L.length
    · rcases Ha.out with hnil | ⟨b, o, rfl, hbw, _, hc⟩
      · simp [hnil] at hlt
      obtain ⟨p0, p1, p2⟩ := hc k hlt
      have d0 := (bk.cell (p := ⟨b, o + k * 3, none⟩) hbw).trans p0
      have d1 := (bk.cell (p := ⟨b, o + k * 3 + 1, none⟩) hbw).trans p1
      have d2 := (bk.cell (p := ⟨b, o + k * 3 + 2, none⟩) hbw).trans p2
      have hbk1 := Hbb.out (k + 1)
      have hS := items_succ L k hlt
      have hxs := Hs.out L[k] (List.getElem_mem hlt)
      clear hc p0 p1 p2
      generalize L[k] = x at *
      rw [hS] at hbk1
      have HS := Lib.hid hS
      have n5 := nw_alloc wr (.cells #[.int .i64 x.key, .string ⟨x.text.toArray⟩, .int .i64 x.mark] tSigned)
      have k5 := heap_new wr (.cells #[.int .i64 x.key, .string ⟨x.text.toArray⟩, .int .i64 x.mark] tSigned)
      generalize hW5 : wr.alloc (.cells #[.int .i64 x.key, .string ⟨x.text.toArray⟩, .int .i64 x.mark] tSigned) = W5 at *
      have HW5 := Lib.hid hW5
      obtain ⟨_, _, _⟩ := later3 k5
      have g5 := gk.upd n5
      have NF := Lib.hid (fun (i : Later W5) => Num_e x.mark i.1 (g5.upd i.nw) hxs.1.m)
      have TF := Lib.hid (fun (i : Later W5) => Text_e ⟨x.text.toArray⟩ x.text (bs_list _) i.1 (g5.upd i.nw) hxs.1.t)
      have HBk := Lib.hid hBk
      have hn3 : (Wire.numE x.mark).length ≤ 30 := by
        have i1 := itoa_le hxs.1.m
        unfold Wire.numE
        split
        · simp
        · simp only [Wire.intE, List.length_append, List.length_cons, List.length_nil]; omega
      have hn4 : (Wire.textE x.text).length ≤ 200000 := by
        have i2 := itoa_le (n := (x.text.length : Int)) (by have := hxs.2; unfold I64; omega)
        have := hxs.2
        simp only [Wire.textE, List.length_append, List.length_cons, List.length_nil]; omega
      have hit : Hid (Vw.itemE x = Wire.numE x.mark ++ Wire.textE x.text) := by show _ = _; rfl
      clear hS hW5 k5 hxs hBk
      go_wp2_with fail
      rw [HW5.out]
      refine wp_region_nw_tail 7 (by kernel_rfl) (by kernel_rfl) ?_
      simp only [List.take_succ_cons, List.take_zero, List.drop_succ_cons, List.drop_zero]
      repeat (go_big_quiet_step ((first | (go_at_call 98; exact later_call (NF.out _)) | (go_at_call 99; exact later_call (TF.out _)))))
      refine wpQuiet_nil ?_
      intro w6 u6
      replace u6 := later_out u6
      have Bd6 := (HBk.out.nw n5).nw u6
      have u6' := uk.trans (n5.trans u6)
      have hlen : (pre ++ ((L.take k).map Vw.itemE).flatten).length + (Vw.itemE x).length ≤ 140737488355328 := by
        simp only [List.length_append] at hbk1 ⊢; omega
      generalize Vw.itemE x = it at *
      generalize Wire.numE x.mark = y1 at *
      generalize Wire.textE x.text = y2 at *
      have hap : (ByteArray.mk y1.toArray ++ ByteArray.mk y2.toArray).data.toList = it := by rw [hit.out]; simp only [bs_append_list, bs_list]
      have Hap := Lib.hid hap
      clear hap
      go_wp2_with fail
      (with_reducible refine (WriteString_c w.heap.size w.heap.size _ _ it Hap.out _ Bd6 hlen u6'.size).mono ?_)
      rintro _ w7 ⟨rfl, B7, b7⟩
      go_wp2_with fail
      go_roundw
      case rel =>
        refine ⟨k + 1, by omega, by go_num, ?_, (Nw.below u6').trans b7⟩
        rw [HS.out, ← List.append_assoc]
        exact B7
      case measure => simp [intOf]; omega
    · obtain rfl : k = L.length := by omega
      have hBk' : Bld w.heap.size w.heap.size (Vw.bytesOf key L) wr := by rw [Hfin.out]; rw [List.take_length] at hBk; exact hBk
      have HBk' := Lib.hid hBk'
      clear hBk hBk'
      go_wp2_with fail
      (with_reducible refine (String_c w.heap.size w.heap.size _ _ HBk'.out uk.size).mono ?_)
      rintro _ w8 ⟨rfl, b8⟩
      go_wp2_with fail
      go_ret
      exact ⟨rfl, Upd.of_below _ (bk.trans b8)⟩
end Go.Proofs.YtagmlemlagbfkaaGreatDoor
namespace Go.Proofs.YtagmlemlagbfkaaGreatDoor.Vw
open Go.Lib Go.RowKit Wire
open Bk (Seal Sgn noSgn isKey place valid)
open Cl (Clm contra)
set_option linter.unusedVariables false
set_option linter.unusedSimpArgs false

theorem accept_or {Lr : List Seal} {key : Int} {L : List Sgn} (h : VOk Lr key L) (s : Sgn) : (accept Lr key L s).2 = L ∨ (accept Lr key L s).2 = L ++ [s] ∧ VOk Lr key (L ++ [s]) := by
  have hk := accept_ok h s
  rcases accept_cases Lr key L s with ⟨_, e⟩ | ⟨_, _, e⟩ | ⟨_, _, _, e⟩ | ⟨_, _, _, _, e⟩ | ⟨_, _, _, _, _, e⟩ | ⟨h1, h2, h3, h4, h5, e⟩
  all_goals rw [e] at hk ⊢
  all_goals first | exact Or.inl rfl | exact Or.inr ⟨rfl, hk⟩
/-- What was known stays. -/
structure Grow (L L' : List Sgn) : Prop where
  time : (sizeOf L).2 ≤ (sizeOf L').2
  text : ∀ n, (textAt L n).2 = true → textAt L' n = textAt L n
  absent : ∀ k, (absentOf L k).2 = true → (absentOf L' k).2 = true ∧ (absentOf L k).1 ≤ (absentOf L' k).1
  known : ∀ n, known L n = true → known L' n = true
theorem grow {Lr : List Seal} {key : Int} {L : List Sgn} (h : VOk Lr key L) (s : Sgn) : Grow L (accept Lr key L s).2 := by
  rcases accept_or h s with e | ⟨e, hk⟩
  · rw [e]
    exact ⟨Int.le_refl _, fun _ _ => rfl, fun _ h => ⟨h, Int.le_refl _⟩, fun _ h => h⟩
  · rw [e]
    have ht : ∀ n, (textAt L n).2 = true → textAt (L ++ [s]) n = textAt L n := fun n hn => by
      have hm := text_is hn
      have hm2 : (n, (textAt L n).1) ∈ entA (L ++ [s]) := by rw [entA_snoc]; exact List.mem_append_left _ hm
      rw [text_in hk hm2, ← hn]
    refine ⟨?_, ht, fun k hk2 => ?_, fun n hn => ?_⟩
    · rw [sizeOf_snoc, sizeStep]
      split
      · rename_i h1; dsimp only; omega
      · exact Int.le_refl _
    · rw [absentOf_snoc, absStep]
      split
      · exact ⟨rfl, by dsimp only; omega⟩
      · exact ⟨hk2, Int.le_refl _⟩
    · rw [known_all] at hn ⊢
      intro i hi
      rw [ht i (hn i hi)]
      exact hn i hi
end Go.Proofs.YtagmlemlagbfkaaGreatDoor.Vw
namespace Go.Proofs.YtagmlemlagbfkaaGreatDoor
open Go.RowKit
set_option linter.unusedVariables false
set_option linter.unusedSimpArgs false
attribute [local irreducible] Calls

/-- In the taking loop: the ring asked, the new view, the slice of what was read. -/
def RdT (B : Nat) (w : World) (q : RingR) (Lr : List Bk.Seal) (key : Int) (vb : Nat) (ov : Value) (l L : List Bk.Sgn) (z : World) : Prop :=
  ∃ r, r.vb = vb ∧ RingAt B z q Lr ∧ ViewAt w.heap.size z r q.rb key L ∧ Vw.VOk Lr key L ∧ z.ownsRow w.heap.size tSigned 3 ov l.length (flatS l) ∧ (∀ j, ov.ownBlock = some j → ¬ r.foot j) ∧ Nw w z
theorem RdT.nw {B : Nat} {w : World} {q : RingR} {Lr : List Bk.Seal} {key : Int} {vb : Nat} {ov : Value} {l L : List Bk.Sgn} {z z' : World} (h : RdT B w q Lr key vb ov l L z) (u : Nw z z') : RdT B w q Lr key vb ov l L z' := by
  obtain ⟨r, h1, h2, h3, h4, h5, h6, h7⟩ := h
  exact ⟨r, h1, h2.nw u, h3.nw u, h4, owns_upd' h5 u (fun _ _ e => e), h6, h7.trans u⟩
end Go.Proofs.YtagmlemlagbfkaaGreatDoor
namespace Go.Proofs.YtagmlemlagbfkaaGreatDoor
open Go.RowKit
set_option linter.unusedVariables false
set_option linter.unusedSimpArgs false
attribute [local irreducible] Calls

set_option maxHeartbeats 2000000 in
set_option maxRecDepth 100000 in
theorem bytesv_q (B : Nat) (c : QView) (qb : Nat) (key : Int) (L : List Bk.Sgn) (w : World) (g : Gl w) (h : QViewAt B w c qb key L) (hs : ∀ s ∈ L, SgnOk s ∧ s.text.length ≤ 100000) (hL : L.length ≤ 900000) :
    Calls Tryz.prog 33 #[.pointer (some ⟨c.cb, 0, none⟩)] w fun e w' => e = .returned (.string ⟨(Vw.bytesOf key L).toArray⟩) ∧ Nw w w' := by
  have hkey : 0 ≤ key ∧ key < 200 := by have := h.key; unfold Bk.isKey at this; simpa using this
  have hI : I64 (L.length : Int) := by unfold I64; omega
  have hIk : I64 key := by unfold I64; omega
  have i1 := itoa_le hI
  have i2 := itoa_le hIk
  have hn1 : (Wire.numE key).length ≤ 30 := by
    unfold Wire.numE
    rw [if_neg (by omega)]
    simp only [Wire.intE, List.length_append, List.length_cons, List.length_nil]; omega
  have hn2 : (Wire.numE (L.length : Int)).length ≤ 30 := by
    unfold Wire.numE
    rw [if_neg (by omega)]
    simp only [Wire.intE, List.length_append, List.length_cons, List.length_nil]; omega
  have htot : ((L.map Vw.itemE).flatten).length ≤ 100100000000 := by have := items_le hs; omega
  have Hbb := Lib.hid (fun k => Nat.le_trans (items_take L k) htot)
  have Hfin : Hid (Vw.bytesOf key L = (Wire.numE key ++ Wire.numE L.length) ++ (L.map Vw.itemE).flatten) := by show _ = _; rfl
  have QN := Lib.hid (fun (i : Later w) => Num_q key i.1 hIk)
  have QL := Lib.hid (fun (i : Later w) => Num_q (L.length : Int) i.1 hI)
  have l1 := fun i : Later w => (h.nw i.nw).cells.2.1
  obtain ⟨a0, cap0, hev⟩ := own_slice h.own
  have l2 := fun i : Later w => (h.nw i.nw).cells.2.2
  rw [hev] at l2
  have Hs := Lib.hid hs
  have H := Lib.hid h
  have HL := Lib.hid hL
  clear hs h htot i1 i2 hkey hev
  go_enter Tryz.func33, Tryz.ntmps33
  go_wp2_with fail
  refine wp_region_nw (by kernel_rfl) (by kernel_rfl) ?_
  repeat (go_big_quiet_step ((go_at_call 101; first | exact later_call (QN.out _) | exact later_call (QL.out _))))
  refine wpQuiet_nil ?_
  intro w2 u2
  replace u2 := later_out u2
  have hbp : (Wire.numE key ++ Wire.numE (L.length : Int)).length ≤ 60 := by rw [List.length_append]; omega
  generalize hp : Wire.numE key ++ Wire.numE (L.length : Int) = pre at *
  have hap : (ByteArray.mk (Wire.numE key).toArray ++ ByteArray.mk (Wire.numE (L.length : Int)).toArray) = ByteArray.mk pre.toArray := by rw [bs_append, hp]
  have Hap := Lib.hid hap
  have Hp := Lib.hid hp
  clear hap hp hn1 hn2 QN QL l1 l2
  rw [Hap.out]
  go_wp2_with fail
  go_loopw [3, 4] (fun sv iv wr => ∃ k : Nat, k ≤ L.length ∧ iv = .int .i64 k ∧ (∃ s : ByteArray, sv = .string s ∧ Hid (s.data.toList = pre ++ ((L.take k).map Vw.itemE).flatten)) ∧ Nw w wr) (fun sv iv _ => L.length - (intOf iv).toNat)
  case atStart => exact ⟨0, Nat.zero_le _, rfl, ⟨_, rfl, by show _ = _; simp⟩, u2⟩
  case round =>
    obtain ⟨k, hk, rfl, ⟨s, rfl, hsl⟩, u⟩ := hrel
    have h' := H.out.nw u
    obtain ⟨a, cap, c2, hrow⟩ := h'.row
    have gr := g.upd u
    by_cases hlt : k < L.length
    · have hbk := Hbb.out (k + 1)
      have hS := items_succ L k hlt
      have hxs := Hs.out L[k] (List.getElem_mem hlt)
      obtain ⟨b, o, rfl, _, _, _⟩ := qsgn_at hrow hlt
      have lc := fun i : Later wr => qsgn_at (owns_upd' hrow i.nw (fun _ _ e => e)) hlt
      have d1 : ∀ i : Later wr, i.1.cell? ⟨b, o + k * 3 + 1, none⟩ = some (.string ⟨L[k].text.toArray⟩) := fun i => by
        obtain ⟨b', o', e, _, d, _⟩ := lc i
        obtain ⟨rfl, rfl⟩ : b = b' ∧ o = o' := by simpa using e
        exact d
      have d2 : ∀ i : Later wr, i.1.cell? ⟨b, o + k * 3 + 2, none⟩ = some (.int .i64 L[k].mark) := fun i => by
        obtain ⟨b', o', e, _, _, d⟩ := lc i
        obtain ⟨rfl, rfl⟩ : b = b' ∧ o = o' := by simpa using e
        exact d
      have l2 := fun i : Later wr => later_cell i c2
      generalize L[k] = x at *
      rw [hS] at hbk
      have hi : Vw.itemE x = Wire.numE x.mark ++ Wire.textE x.text := rfl
      rw [hi] at hS hbk
      have HS := Lib.hid hS
      have NF := Lib.hid (fun (i : Later wr) => Num_q x.mark i.1 hxs.1.m)
      have TF := Lib.hid (fun (i : Later wr) => Text_q ⟨x.text.toArray⟩ x.text (bs_list _) i.1 hxs.1.t)
      have hsz : s.size = pre.length + (((L.take k).map Vw.itemE).flatten).length := by rw [bs_size, hsl.out, List.length_append]
      have hz1 : (ByteArray.mk (Wire.numE x.mark).toArray).size = (Wire.numE x.mark).length := by simp [bs_size]
      have hz2 : (ByteArray.mk (Wire.textE x.text).toArray).size = (Wire.textE x.text).length := by simp [bs_size]
      simp only [List.length_append] at hbk
      have b1 : s.size + (Wire.numE x.mark).length + (Wire.textE x.text).length ≤ 140737488355328 := by omega
      have hfin : Hid (((s ++ ByteArray.mk (Wire.numE x.mark).toArray) ++ ByteArray.mk (Wire.textE x.text).toArray).data.toList = pre ++ ((L.take (k + 1)).map Vw.itemE).flatten) := by
        show _ = _
        rw [HS.out]
        simp only [bs_append_list, bs_list, hsl.out, List.append_assoc]
      clear lc hS hxs hbk hi hsz hrow h'
      generalize Wire.numE x.mark = y1 at *
      generalize Wire.textE x.text = y2 at *
      go_wp2_with fail
      refine wp_region_nw (by kernel_rfl) (by kernel_rfl) ?_
      repeat (go_big_quiet_step ((first | (go_at_call 101; exact later_call (NF.out _)) | (go_at_call 80; exact later_call (TF.out _)))))
      refine wpQuiet_nil ?_
      intro w6 u6
      replace u6 := later_out u6
      go_wp2_with fail
      go_roundw
      case rel => exact ⟨k + 1, by omega, by go_num, ⟨_, rfl, hfin⟩, u.trans u6⟩
      case measure => simp [intOf]; omega
    · obtain rfl : k = L.length := by omega
      have hfin : Hid (s.data.toList = Vw.bytesOf key L) := by
        show _ = _
        rw [hsl.out, List.take_length, Hfin.out]
      clear hsl hrow h'
      go_wp2_with fail
      go_ret
      exact ⟨ret_bs hfin.out, u⟩
/-- In the taking loop: the ring asked, the new view, the slice of what was read. -/
def QRdT (B : Nat) (w : World) (q : QRing) (Lr : List Bk.Seal) (key : Int) (vb : Nat) (ov : Value) (l L : List Bk.Sgn) (z : World) : Prop :=
  ∃ r : QView, r.cb = vb ∧ QRingAt B z q Lr ∧ QViewAt w.heap.size z r q.qb key L ∧ Vw.VOk Lr key L ∧ z.ownsRow w.heap.size tSigned 3 ov l.length (flatS l) ∧ (∀ j, ov.ownBlock = some j → ¬ r.foot j) ∧ Nw w z
theorem QRdT.nw {B : Nat} {w : World} {q : QRing} {Lr : List Bk.Seal} {key : Int} {vb : Nat} {ov : Value} {l L : List Bk.Sgn} {z z' : World} (h : QRdT B w q Lr key vb ov l L z) (u : Nw z z') : QRdT B w q Lr key vb ov l L z' := by
  obtain ⟨r, h1, h2, h3, h4, h5, h6, h7⟩ := h
  exact ⟨r, h1, h2.nw u, h3.nw u, h4, owns_upd' h5 u (fun _ _ e => e), h6, h7.trans u⟩
end Go.Proofs.YtagmlemlagbfkaaGreatDoor
