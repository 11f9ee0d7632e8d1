/- The contract of the view's Bytes. -/
import Derived.Test.YtidmehiboceobaaGreatDoorView8
import Derived.Test.YtidmehiboceobaaGreatDoorEncs
namespace Go.Proofs.YtidmehiboceobaaGreatDoor
open Go.RowKit
set_option linter.unusedVariables false
set_option linter.unusedSimpArgs false
attribute [local irreducible] Calls

theorem items_take (L : List Bk.Sgn) (k : Nat) : (((L.take k).map Vw.itemE).flatten).length ≤ ((L.map Vw.itemE).flatten).length := by
  have h : (L.map Vw.itemE).flatten = ((L.take k).map Vw.itemE).flatten ++ ((L.drop k).map Vw.itemE).flatten := by rw [← List.flatten_append, ← List.map_append, List.take_append_drop]
  rw [h, List.length_append]; omega
theorem items_succ (L : List Bk.Sgn) (k : Nat) (h : k < L.length) : ((L.take (k + 1)).map Vw.itemE).flatten = ((L.take k).map Vw.itemE).flatten ++ Vw.itemE L[k] := by
  rw [List.take_succ_eq_append_getElem h, List.map_append, List.flatten_append]; simp
theorem item_le {s : Bk.Sgn} (hs : SgnOk s) (ht : s.text.length ≤ 100000) : (Vw.itemE s).length ≤ 100100 := by
  have i1 := itoa_le hs.m
  have i2 := itoa_le (n := (s.text.length : Int)) (by unfold I64; omega)
  unfold Vw.itemE Wire.numE
  split
  · simp only [Wire.textE, List.length_append, List.length_cons, List.length_nil]; omega
  · simp only [Wire.intE, Wire.textE, List.length_append, List.length_cons, List.length_nil]; omega
theorem items_le {L : List Bk.Sgn} (h : ∀ s ∈ L, SgnOk s ∧ s.text.length ≤ 100000) : ((L.map Vw.itemE).flatten).length ≤ 100100 * L.length := by
  induction L with
  | nil => simp
  | cons s L ih =>
    have h1 := item_le (h s (List.mem_cons_self ..)).1 (h s (List.mem_cons_self ..)).2
    have h2 := ih (fun x hx => h x (List.mem_cons_of_mem _ hx))
    rw [List.map_cons, List.flatten_cons, List.length_append, List.length_cons]
    omega
theorem ViewAt.laterK {B : Nat} {w : World} {r : ViewR} {rb : Nat} {key : Int} {L : List Bk.Sgn} (h : ViewAt B w r rb key L) : (∀ i : Later w, i.1.cell? ⟨r.vb, 1, none⟩ = some (.int .i64 key)) ∧ (∀ i : Later w, i.1.cell? ⟨r.vb, 2, none⟩ = some r.sv) :=
  ⟨fun i => (h.nw i.nw).cells.2.1, fun i => (h.nw i.nw).cells.2.2.1⟩
set_option maxHeartbeats 2000000 in
set_option maxRecDepth 100000 in
theorem bytes_v (B : Nat) (r : ViewR) (rb : Nat) (key : Int) (L : List Bk.Sgn) (w : World) (g : Gl w) (h : ViewAt B w r rb key L) (hs : ∀ s ∈ L, SgnOk s ∧ s.text.length ≤ 100000) (hL : L.length ≤ 900000) :
    Calls Tryz.prog 13 #[.pointer (some ⟨r.vb, 0, none⟩)] w fun e w' => e = .returned (.string ⟨(Vw.bytesOf key L).toArray⟩) ∧ Nw w w' := by
  have hgb := g.big
  have hkey : 0 ≤ key ∧ key < 200 := by have := h.key; unfold Bk.isKey at this; simpa using this
  have hI : I64 (L.length : Int) := by unfold I64; omega
  have hIk : I64 key := by unfold I64; omega
  have i1 := itoa_le hI
  have i2 := itoa_le hIk
  have hpre : (Wire.numE key ++ Wire.numE L.length).length ≤ 50 := by
    unfold Wire.numE
    rw [if_neg (by omega), if_neg (by omega)]
    simp only [Wire.intE, List.length_append, List.length_cons, List.length_nil]; omega
  have hn1 : (Wire.numE key).length ≤ 30 := by
    unfold Wire.numE
    rw [if_neg (by omega)]
    simp only [Wire.intE, List.length_append, List.length_cons, List.length_nil]; omega
  have hn2 : (Wire.numE (L.length : Int)).length ≤ 30 := by
    unfold Wire.numE
    rw [if_neg (by omega)]
    simp only [Wire.intE, List.length_append, List.length_cons, List.length_nil]; omega
  have htot : ((L.map Vw.itemE).flatten).length ≤ 100100000000 := by have := items_le hs; omega
  have Hbb := Lib.hid (fun k => Nat.le_trans (items_take L k) htot)
  have Hfin : Hid (Vw.bytesOf key L = (Wire.numE key ++ Wire.numE L.length) ++ (L.map Vw.itemE).flatten) := by show _ = _; rfl
  have hB0 := Bld.fresh w
  have n1 := nw_alloc w (.cells #[.pointer none, .slice none 0 0] 90)
  generalize hW : w.alloc (.cells #[.pointer none, .slice none 0 0] 90) = W at *
  have HW := Lib.hid hW
  have hWs : w.heap.size ≤ W.heap.size := n1.size
  have h1 := h.nw n1
  obtain ⟨a, cap, hsv⟩ := h.sslice
  obtain ⟨l1, l2⟩ := h1.laterK
  rw [hsv] at l2
  have gW := g.upd n1
  have QN := Lib.hid (fun (i : Later W) => Num_e key i.1 (gW.upd i.nw) hIk)
  have QL := Lib.hid (fun (i : Later W) => Num_e (L.length : Int) i.1 (gW.upd i.nw) hI)
  have HL9 := Lib.hid hL
  have Hs := Lib.hid hs
  have H := Lib.hid h
  have Hsv := Lib.hid hsv
  have HB0 := Lib.hid hB0
  clear hW hL hs h h1 hsv htot i1 i2 hB0 hkey
  have hW2 := fun pre : List UInt8 => pre
  go_enter Tryz.func13, Tryz.ntmps13
  go_wp2_with fail
  rw [HW.out]
  refine wp_region_nw_tail 12 (by kernel_rfl) (by kernel_rfl) ?_
  simp only [List.take_succ_cons, List.take_zero, List.drop_succ_cons, List.drop_zero]
  repeat (go_big_quiet_step ((go_at_call 40; first | exact later_call (QN.out _) | exact later_call (QL.out _))))
  refine wpQuiet_nil ?_
  intro w2 u2
  replace u2 := later_out u2
  have Bd := HB0.out.nw u2
  generalize hp : Wire.numE key ++ Wire.numE (L.length : Int) = pre at *
  have hap : (ByteArray.mk (Wire.numE key).toArray ++ ByteArray.mk (Wire.numE (L.length : Int)).toArray) = ByteArray.mk pre.toArray := by rw [bs_append, hp]
  have u2' := n1.trans u2
  go_wp2_with fail
  (with_reducible refine (WriteString_c w.heap.size w.heap.size [] _ pre (bs_list _) _ Bd (by simp; omega) u2'.size).mono ?_)
  rintro _ w3 ⟨rfl, B3, b3⟩
  have b3' : Below w.heap.size w w3 := (Nw.below u2').trans b3
  have hBk0 : Bld w.heap.size w.heap.size (pre ++ ((L.take 0).map Vw.itemE).flatten) w3 := by simpa using B3
  have u3 : Nw w w3 := Upd.of_below _ b3'
  have h3 := H.out.nw u3
  obtain ⟨_, _, c2, _⟩ := h3.cells
  rw [Hsv.out] at c2
  have Hr := sgn_sls H.out.sown
  rw [Hsv.out] at Hr
  obtain ⟨a', cap', e1, hm, ha⟩ := sgn_cells Hr
  obtain ⟨rfl, rfl⟩ : a = a' ∧ cap = cap' := by simpa using e1
  have Ha := Lib.hid ha
  have HBk0 := Lib.hid hBk0
  have Hb3 := Lib.hid b3'
  have hL9 := HL9.out
  clear ha e1 hBk0 B3 l1 l2 h3 hap hm Hr b3' b3
  go_wp2_with fail
  go_loopw [24] (fun i wr => ∃ k : Nat, k ≤ L.length ∧ i = .int .i64 k ∧ Bld w.heap.size w.heap.size (pre ++ ((L.take k).map Vw.itemE).flatten) wr ∧ Below w.heap.size w wr) (fun i _ => L.length - (intOf i).toNat)
  case atStart => exact ⟨0, Nat.zero_le _, rfl, HBk0.out, Hb3.out⟩
  case round =>
    obtain ⟨k, hk, rfl, hBk, bk⟩ := hrel
    have uk : Nw w wr := Upd.of_below _ bk
    have gk := g.upd uk
    have hbk := Hbb.out k
    by_cases hlt : k < L.length
    · rcases Ha.out with hnil | ⟨b, o, rfl, hbw, _, hc⟩
      · simp [hnil] at hlt
      obtain ⟨p0, p1, p2⟩ := hc k hlt
      have d0 := (bk.cell (p := ⟨b, o + k * 3, none⟩) hbw).trans p0
      have d1 := (bk.cell (p := ⟨b, o + k * 3 + 1, none⟩) hbw).trans p1
      have d2 := (bk.cell (p := ⟨b, o + k * 3 + 2, none⟩) hbw).trans p2
      have hbk1 := Hbb.out (k + 1)
      have hS := items_succ L k hlt
      have hxs := Hs.out L[k] (List.getElem_mem hlt)
      clear hc p0 p1 p2
      generalize L[k] = x at *
      rw [hS] at hbk1
      have HS := Lib.hid hS
      have n5 := nw_alloc wr (.cells #[.int .i64 x.key, .string ⟨x.text.toArray⟩, .int .i64 x.mark] tSigned)
      have k5 := heap_new wr (.cells #[.int .i64 x.key, .string ⟨x.text.toArray⟩, .int .i64 x.mark] tSigned)
      generalize hW5 : wr.alloc (.cells #[.int .i64 x.key, .string ⟨x.text.toArray⟩, .int .i64 x.mark] tSigned) = W5 at *
      have HW5 := Lib.hid hW5
      obtain ⟨_, _, _⟩ := later3 k5
      have g5 := gk.upd n5
      have NF := Lib.hid (fun (i : Later W5) => Num_e x.mark i.1 (g5.upd i.nw) hxs.1.m)
      have TF := Lib.hid (fun (i : Later W5) => Text_e ⟨x.text.toArray⟩ x.text (bs_list _) i.1 (g5.upd i.nw) hxs.1.t)
      have HBk := Lib.hid hBk
      have hn3 : (Wire.numE x.mark).length ≤ 30 := by
        have i1 := itoa_le hxs.1.m
        unfold Wire.numE
        split
        · simp
        · simp only [Wire.intE, List.length_append, List.length_cons, List.length_nil]; omega
      have hn4 : (Wire.textE x.text).length ≤ 200000 := by
        have i2 := itoa_le (n := (x.text.length : Int)) (by have := hxs.2; unfold I64; omega)
        have := hxs.2
        simp only [Wire.textE, List.length_append, List.length_cons, List.length_nil]; omega
      have hit : Hid (Vw.itemE x = Wire.numE x.mark ++ Wire.textE x.text) := by show _ = _; rfl
      clear hS hW5 k5 hxs hBk
      go_wp2_with fail
      rw [HW5.out]
      refine wp_region_nw_tail 7 (by kernel_rfl) (by kernel_rfl) ?_
      simp only [List.take_succ_cons, List.take_zero, List.drop_succ_cons, List.drop_zero]
      repeat (go_big_quiet_step ((first | (go_at_call 40; exact later_call (NF.out _)) | (go_at_call 41; exact later_call (TF.out _)))))
      refine wpQuiet_nil ?_
      intro w6 u6
      replace u6 := later_out u6
      have Bd6 := (HBk.out.nw n5).nw u6
      have u6' := uk.trans (n5.trans u6)
      have hlen : (pre ++ ((L.take k).map Vw.itemE).flatten).length + (Vw.itemE x).length ≤ 140737488355328 := by
        simp only [List.length_append] at hbk1 ⊢; omega
      generalize Vw.itemE x = it at *
      generalize Wire.numE x.mark = y1 at *
      generalize Wire.textE x.text = y2 at *
      have hap : (ByteArray.mk y1.toArray ++ ByteArray.mk y2.toArray).data.toList = it := by rw [hit.out]; simp only [bs_append_list, bs_list]
      have Hap := Lib.hid hap
      clear hap
      go_wp2_with fail
      (with_reducible refine (WriteString_c w.heap.size w.heap.size _ _ it Hap.out _ Bd6 hlen u6'.size).mono ?_)
      rintro _ w7 ⟨rfl, B7, b7⟩
      go_wp2_with fail
      go_roundw
      case rel =>
        refine ⟨k + 1, by omega, by go_num, ?_, (Nw.below u6').trans b7⟩
        rw [HS.out, ← List.append_assoc]
        exact B7
      case measure => simp [intOf]; omega
    · obtain rfl : k = L.length := by omega
      have hBk' : Bld w.heap.size w.heap.size (Vw.bytesOf key L) wr := by rw [Hfin.out]; rw [List.take_length] at hBk; exact hBk
      have HBk' := Lib.hid hBk'
      clear hBk hBk'
      go_wp2_with fail
      (with_reducible refine (String_c w.heap.size w.heap.size _ _ HBk'.out uk.size).mono ?_)
      rintro _ w8 ⟨rfl, b8⟩
      go_wp2_with fail
      go_ret
      exact ⟨rfl, Upd.of_below _ (bk.trans b8)⟩
end Go.Proofs.YtidmehiboceobaaGreatDoor
