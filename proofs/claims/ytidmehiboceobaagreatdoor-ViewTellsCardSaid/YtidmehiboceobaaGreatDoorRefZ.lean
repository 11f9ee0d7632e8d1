/- The contracts of the reference's view: Bytes, Read. -/
import Derived.Test.YtidmehiboceobaaGreatDoorRefY
import Derived.Test.YtidmehiboceobaaGreatDoorVBytes
import Derived.Test.YtidmehiboceobaaGreatDoorVRead
namespace Go.Proofs.YtidmehiboceobaaGreatDoor
open Go.RowKit
set_option linter.unusedVariables false
set_option linter.unusedSimpArgs false
attribute [local irreducible] Calls

set_option maxHeartbeats 2000000 in
set_option maxRecDepth 100000 in
theorem bytesv_q (B : Nat) (c : QView) (qb : Nat) (key : Int) (L : List Bk.Sgn) (w : World) (g : Gl w) (h : QViewAt B w c qb key L) (hs : ∀ s ∈ L, SgnOk s ∧ s.text.length ≤ 100000) (hL : L.length ≤ 900000) :
    Calls Tryz.prog 34 #[.pointer (some ⟨c.cb, 0, none⟩)] w fun e w' => e = .returned (.string ⟨(Vw.bytesOf key L).toArray⟩) ∧ Nw w w' := by
  have hkey : 0 ≤ key ∧ key < 200 := by have := h.key; unfold Bk.isKey at this; simpa using this
  have hI : I64 (L.length : Int) := by unfold I64; omega
  have hIk : I64 key := by unfold I64; omega
  have i1 := itoa_le hI
  have i2 := itoa_le hIk
  have hn1 : (Wire.numE key).length ≤ 30 := by
    unfold Wire.numE
    rw [if_neg (by omega)]
    simp only [Wire.intE, List.length_append, List.length_cons, List.length_nil]; omega
  have hn2 : (Wire.numE (L.length : Int)).length ≤ 30 := by
    unfold Wire.numE
    rw [if_neg (by omega)]
    simp only [Wire.intE, List.length_append, List.length_cons, List.length_nil]; omega
  have htot : ((L.map Vw.itemE).flatten).length ≤ 100100000000 := by have := items_le hs; omega
  have Hbb := Lib.hid (fun k => Nat.le_trans (items_take L k) htot)
  have Hfin : Hid (Vw.bytesOf key L = (Wire.numE key ++ Wire.numE L.length) ++ (L.map Vw.itemE).flatten) := by show _ = _; rfl
  have QN := Lib.hid (fun (i : Later w) => Num_q key i.1 hIk)
  have QL := Lib.hid (fun (i : Later w) => Num_q (L.length : Int) i.1 hI)
  have l1 := fun i : Later w => (h.nw i.nw).cells.2.1
  obtain ⟨a0, cap0, hev⟩ := own_slice h.own
  have l2 := fun i : Later w => (h.nw i.nw).cells.2.2
  rw [hev] at l2
  have Hs := Lib.hid hs
  have H := Lib.hid h
  have HL := Lib.hid hL
  clear hs h htot i1 i2 hkey hev
  go_enter Tryz.func34, Tryz.ntmps34
  go_wp2_with fail
  refine wp_region_nw (by kernel_rfl) (by kernel_rfl) ?_
  repeat (go_big_quiet_step ((go_at_call 66; first | exact later_call (QN.out _) | exact later_call (QL.out _))))
  refine wpQuiet_nil ?_
  intro w2 u2
  replace u2 := later_out u2
  have hbp : (Wire.numE key ++ Wire.numE (L.length : Int)).length ≤ 60 := by rw [List.length_append]; omega
  generalize hp : Wire.numE key ++ Wire.numE (L.length : Int) = pre at *
  have hap : (ByteArray.mk (Wire.numE key).toArray ++ ByteArray.mk (Wire.numE (L.length : Int)).toArray) = ByteArray.mk pre.toArray := by rw [bs_append, hp]
  have Hap := Lib.hid hap
  have Hp := Lib.hid hp
  clear hap hp hn1 hn2 QN QL l1 l2
  rw [Hap.out]
  go_wp2_with fail
  go_loopw [3, 4] (fun sv iv wr => ∃ k : Nat, k ≤ L.length ∧ iv = .int .i64 k ∧ (∃ s : ByteArray, sv = .string s ∧ Hid (s.data.toList = pre ++ ((L.take k).map Vw.itemE).flatten)) ∧ Nw w wr) (fun sv iv _ => L.length - (intOf iv).toNat)
  case atStart => exact ⟨0, Nat.zero_le _, rfl, ⟨_, rfl, by show _ = _; simp⟩, u2⟩
  case round =>
    obtain ⟨k, hk, rfl, ⟨s, rfl, hsl⟩, u⟩ := hrel
    have h' := H.out.nw u
    obtain ⟨a, cap, c2, hrow⟩ := h'.row
    have gr := g.upd u
    by_cases hlt : k < L.length
    · have hbk := Hbb.out (k + 1)
      have hS := items_succ L k hlt
      have hxs := Hs.out L[k] (List.getElem_mem hlt)
      obtain ⟨b, o, rfl, _, _, _⟩ := qsgn_at hrow hlt
      have lc := fun i : Later wr => qsgn_at (owns_upd' hrow i.nw (fun _ _ e => e)) hlt
      have d1 : ∀ i : Later wr, i.1.cell? ⟨b, o + k * 3 + 1, none⟩ = some (.string ⟨L[k].text.toArray⟩) := fun i => by
        obtain ⟨b', o', e, _, d, _⟩ := lc i
        obtain ⟨rfl, rfl⟩ : b = b' ∧ o = o' := by simpa using e
        exact d
      have d2 : ∀ i : Later wr, i.1.cell? ⟨b, o + k * 3 + 2, none⟩ = some (.int .i64 L[k].mark) := fun i => by
        obtain ⟨b', o', e, _, _, d⟩ := lc i
        obtain ⟨rfl, rfl⟩ : b = b' ∧ o = o' := by simpa using e
        exact d
      have l2 := fun i : Later wr => later_cell i c2
      generalize L[k] = x at *
      rw [hS] at hbk
      have hi : Vw.itemE x = Wire.numE x.mark ++ Wire.textE x.text := rfl
      rw [hi] at hS hbk
      have HS := Lib.hid hS
      have NF := Lib.hid (fun (i : Later wr) => Num_q x.mark i.1 hxs.1.m)
      have TF := Lib.hid (fun (i : Later wr) => Text_q ⟨x.text.toArray⟩ x.text (bs_list _) i.1 hxs.1.t)
      have hsz : s.size = pre.length + (((L.take k).map Vw.itemE).flatten).length := by rw [bs_size, hsl.out, List.length_append]
      have hz1 : (ByteArray.mk (Wire.numE x.mark).toArray).size = (Wire.numE x.mark).length := by simp [bs_size]
      have hz2 : (ByteArray.mk (Wire.textE x.text).toArray).size = (Wire.textE x.text).length := by simp [bs_size]
      simp only [List.length_append] at hbk
      have b1 : s.size + (Wire.numE x.mark).length + (Wire.textE x.text).length ≤ 140737488355328 := by omega
      have hfin : Hid (((s ++ ByteArray.mk (Wire.numE x.mark).toArray) ++ ByteArray.mk (Wire.textE x.text).toArray).data.toList = pre ++ ((L.take (k + 1)).map Vw.itemE).flatten) := by
        show _ = _
        rw [HS.out]
        simp only [bs_append_list, bs_list, hsl.out, List.append_assoc]
      clear lc hS hxs hbk hi hsz hrow h'
      generalize Wire.numE x.mark = y1 at *
      generalize Wire.textE x.text = y2 at *
      go_wp2_with fail
      refine wp_region_nw (by kernel_rfl) (by kernel_rfl) ?_
      repeat (go_big_quiet_step ((first | (go_at_call 66; exact later_call (NF.out _)) | (go_at_call 67; exact later_call (TF.out _)))))
      refine wpQuiet_nil ?_
      intro w6 u6
      replace u6 := later_out u6
      go_wp2_with fail
      go_roundw
      case rel => exact ⟨k + 1, by omega, by go_num, ⟨_, rfl, hfin⟩, u.trans u6⟩
      case measure => simp [intOf]; omega
    · obtain rfl : k = L.length := by omega
      have hfin : Hid (s.data.toList = Vw.bytesOf key L) := by
        show _ = _
        rw [hsl.out, List.take_length, Hfin.out]
      clear hsl hrow h'
      go_wp2_with fail
      go_ret
      exact ⟨ret_bs hfin.out, u⟩
/-- In the reading loop. -/
structure RdQ (w : World) (b : Nat) (key n : Int) (s : List UInt8) (l : List Bk.Sgn) (st : Wire.St) (f : Nat) (vo : Value) (z : World) : Prop where
  it : Vw.items key n f l st = Vw.itemsOf s
  fuel : (st.getD []).length < f
  rd : Rdr tQ z b st
  own : z.ownsRow w.heap.size tSigned 3 vo l.length (flatS l)
  nw : Nw w z
  all : ∀ x ∈ l, x.key = key ∧ 0 ≤ x.mark ∧ I64 x.mark ∧ x.text.length ≤ s.length
  len : l.length + (st.getD []).length ≤ s.length
def QReadPost (rb : Nat) (Lr : List Bk.Seal) (s : List UInt8) (w : World) (e : Ending) (w' : World) : Prop :=
  Nw w w' ∧ ((∃ L c, Vw.readV Lr s = (some L, 0) ∧ e = .returned (.tuple #[.pointer (some ⟨c.cb, 0, none⟩), .int .i64 0]) ∧ QViewAt w.heap.size w' c rb (Wire.rNum (some s)).1 L ∧ Vw.VOk Lr (Wire.rNum (some s)).1 L) ∨
    ((Vw.readV Lr s).1 = none ∧ e = .returned (.tuple #[.pointer none, .int .i64 (Vw.readV Lr s).2])))
/-- In the taking loop: the ring asked, the new view, the slice of what was read. -/
def QRdT (B : Nat) (w : World) (q : QRing) (Lr : List Bk.Seal) (key : Int) (vb : Nat) (ov : Value) (l L : List Bk.Sgn) (z : World) : Prop :=
  ∃ r : QView, r.cb = vb ∧ QRingAt B z q Lr ∧ QViewAt w.heap.size z r q.qb key L ∧ Vw.VOk Lr key L ∧ z.ownsRow w.heap.size tSigned 3 ov l.length (flatS l) ∧ (∀ j, ov.ownBlock = some j → ¬ r.foot j) ∧ Nw w z
theorem QRdT.nw {B : Nat} {w : World} {q : QRing} {Lr : List Bk.Seal} {key : Int} {vb : Nat} {ov : Value} {l L : List Bk.Sgn} {z z' : World} (h : QRdT B w q Lr key vb ov l L z) (u : Nw z z') : QRdT B w q Lr key vb ov l L z' := by
  obtain ⟨r, h1, h2, h3, h4, h5, h6, h7⟩ := h
  exact ⟨r, h1, h2.nw u, h3.nw u, h4, owns_upd' h5 u (fun _ _ e => e), h6, h7.trans u⟩
theorem qrdt_nw {B : Nat} {w : World} {q : QRing} {Lr : List Bk.Seal} {key : Int} {vb : Nat} {ov : Value} {l L : List Bk.Sgn} {z : World} (h : QRdT B w q Lr key vb ov l L z) : Nw w z := by obtain ⟨r, h1, h2, h3, h4, h5, h6, h7⟩ := h; exact h7
theorem qrdt_acc {B : Nat} {w : World} {q : QRing} {Lr : List Bk.Seal} {key : Int} {vb : Nat} {ov : Value} {l L : List Bk.Sgn} {z : World} (h : QRdT B w q Lr key vb ov l L z) (hqlt : ∀ j, q.foot j → j < w.heap.size) (hn : Lr.Nodup) (hLr : Lr.length ≤ 1000000) (g : Gl z) (s : Bk.Sgn) (hs : SgnOk s) (hL : L.length ≤ 900000) :
    Calls Tryz.prog 23 #[.pointer (some ⟨vb, 0, none⟩), .agg #[.int .i64 s.key, .string ⟨s.text.toArray⟩, .int .i64 s.mark]] z fun e w' => e = .returned (.int .i64 (Vw.accept Lr key L s).1) ∧ QRdT B w q Lr key vb ov l (Vw.accept Lr key L s).2 w' := by
  obtain ⟨r, rfl, h2, h3, h4, h5, h6, h7⟩ := h
  refine (acceptv_q w.heap.size B r q key Lr L s z g h2 hn hLr h3 (fun s hs => (h4.each s hs).2.2) hs h7.size hL).mono ?_
  rintro e w' ⟨r', rfl, hv, hvb, u, hf⟩
  refine ⟨rfl, r', hvb, h2.upd u (fun j hj e => by have := hqlt j hj; have := (h3.foot_lt e).1; omega), hv, Vw.accept_ok h4 s, owns_upd' h5 u h6, fun j hj e => ?_, h7.trans' u (fun j hj e => by have := (h3.foot_lt e).1; omega)⟩
  rcases hf j e with e2 | e2
  · exact h6 j hj e2
  · obtain ⟨_, cs, e3⟩ := own_block h5 hj
    have := lt_of_block e3
    omega
theorem qrdt_had {B : Nat} {w : World} {q : QRing} {Lr : List Bk.Seal} {key : Int} {vb : Nat} {ov : Value} {l L : List Bk.Sgn} {z : World} (h : QRdT B w q Lr key vb ov l L z) (g : Gl z) (s : Bk.Sgn) (hL : L.length ≤ 900000) :
    Calls Tryz.prog 65 #[.pointer (some ⟨vb, 0, none⟩), .agg #[.int .i64 s.key, .string ⟨s.text.toArray⟩, .int .i64 s.mark]] z fun e w' => e = .returned (.bool (decide (s ∈ L))) ∧ Nw z w' := by
  obtain ⟨r, rfl, h2, h3, h4, h5, h6, h7⟩ := h
  exact had_q w.heap.size r q.qb key L z g h3 s hL
set_option maxHeartbeats 8000000 in
set_option maxRecDepth 100000 in
theorem readv_q (B : Nat) (q : QRing) (Lr : List Bk.Seal) (s : List UInt8) (w : World) (g : Gl w) (hq : QRingAt B w q Lr) (hn : Lr.Nodup) (hLr : Lr.length ≤ 1000000) (hs : s.length ≤ 800000) :
    Calls Tryz.prog 37 #[.pointer (some ⟨q.qb, 0, none⟩), .string ⟨s.toArray⟩] w (QReadPost q.qb Lr s w) := by
  have hgb := g.big
  have hqlt : ∀ j, q.foot j → j < w.heap.size := fun j hj => (hq.foot_lt hj).2
  have hk63 := Wire.rNumber_i64 (some s) 59 0
  have hn63 := Wire.rNumber_i64 (Wire.rNum (some s)).2 59 0
  have hle1 := Wire.rNumber_le (some s) 59 0
  have hle2 := Wire.rNumber_le (Wire.rNum (some s)).2 59 0
  change ((Wire.rNum (some s)).2.getD []).length ≤ s.length at hle1
  change ((Wire.rNum (Wire.rNum (some s)).2).2.getD []).length ≤ _ at hle2
  change -9223372036854775808 ≤ (Wire.rNum (some s)).1 ∧ (Wire.rNum (some s)).1 ≤ 9223372036854775807 at hk63
  change -9223372036854775808 ≤ (Wire.rNum (Wire.rNum (some s)).2).1 ∧ (Wire.rNum (Wire.rNum (some s)).2).1 ≤ 9223372036854775807 at hn63
  have hit : Hid (Vw.items (Wire.rNum (some s)).1 (Wire.rNum (Wire.rNum (some s)).2).1 (s.length + 1) [] (Wire.rNum (Wire.rNum (some s)).2).2 = Vw.itemsOf s) := by show _ = _; rfl
  have Hq := Lib.hid hq
  have Hs := Lib.hid hs
  have Hn := Lib.hid hn
  have HLr := Lib.hid hLr
  clear hq hs hn hLr
  go_enter Tryz.func37, Tryz.ntmps37
  go_wp2_with fail
  (with_reducible refine (OpenQ ⟨s.toArray⟩ s (bs_list _) _ g).mono ?_)
  rintro _ w1 ⟨b, rfl, hb, h1, u1⟩
  have g1 := g.upd u1
  go_wp2_with fail
  (with_reducible refine (NumQ b (some s) _ h1 (by have := Hs.out; simp only [Option.getD_some]; omega)).mono ?_)
  rintro _ w2 ⟨rfl, h2, u2⟩
  have g2 := g1.upd u2
  have hbw : w.heap.size ≤ b := hb
  go_wp2_with fail
  (with_reducible refine (NumQ b (Wire.rNum (some s)).2 _ h2 (by have := Hs.out; omega)).mono ?_)
  rintro _ w3 ⟨rfl, h3, u3⟩
  have U3 : Nw w w3 := (u1.trans' u2 (fun j hj e => by omega)).trans' u3 (fun j hj e => by omega)
  have hst : RdQ w b (Wire.rNum (some s)).1 (Wire.rNum (Wire.rNum (some s)).2).1 s [] (Wire.rNum (Wire.rNum (some s)).2).2 (s.length + 1) (.slice none 0 0) w3 :=
    ⟨hit.out, by omega, h3, World.ownsRow_nil _ _ _ _, U3, fun x hx => (by cases hx), by simp only [List.length_nil]; omega⟩
  have Hst := Lib.hid hst
  have Hform : Hid (Vw.goodForm s = (decide ((Vw.itemsOf s).2 = some []) && decide (((Vw.itemsOf s).1.length : Int) = (Wire.rNum (Wire.rNum (some s)).2).1) && Bk.isKey (Wire.rNum (some s)).1)) := by show _ = _; rfl
  have Hread : Hid (Vw.readV Lr s = if Vw.goodForm s then Vw.takeAll Lr (Wire.rNum (some s)).1 [] (Vw.itemsOf s).1 else (none, 2)) := by show _ = _; rfl
  have hpost : Hid (∀ e z, (Nw w z ∧ ((∃ L c, Vw.readV Lr s = (some L, 0) ∧ e = .returned (.tuple #[.pointer (some ⟨c.cb, 0, none⟩), .int .i64 0]) ∧ QViewAt w.heap.size z c q.qb (Wire.rNum (some s)).1 L ∧ Vw.VOk Lr (Wire.rNum (some s)).1 L) ∨ ((Vw.readV Lr s).1 = none ∧ e = .returned (.tuple #[.pointer none, .int .i64 (Vw.readV Lr s).2])))) → QReadPost q.qb Lr s w e z) := fun e z h => h
  clear hst h1 h2 h3 hit hle1 hle2 u1 u2 u3 g1 g2
  generalize (Wire.rNum (Wire.rNum (some s)).2).1 = n at *
  generalize (Wire.rNum (some s)).1 = key at *
  go_wp2_with fail
  go_loopw [9] (fun vo wr => Hid (∃ l st f, RdQ w b key n s l st f vo wr)) (fun vo wr => leftW wr b)
  case atStart => exact ⟨_, _, _, Hst.out⟩
  case round =>
    obtain ⟨l, st, f, R⟩ := hrel.out
    obtain ⟨a, cap, rfl⟩ := own_sl R.own
    have gw := g.upd R.nw
    have hl := R.len
    have hs8 := Hs.out
    have hf := R.fuel
    have HR := Lib.hid R
    obtain ⟨f', rfl⟩ : ∃ f', f = f' + 1 := ⟨f - 1, by omega⟩
    by_cases hc1 : (l.length : Int) < n
    · by_cases hc2 : 0 < (st.getD []).length
      · have hstep : Vw.items key n (f' + 1) l st = Vw.items key n f' (l ++ [⟨key, (Wire.rText (Wire.rNum st).2).1, (Wire.rNum st).1⟩]) (Wire.rText (Wire.rNum st).2).2 := by
          rw [Vw.items, if_pos ⟨hc1, hc2⟩]
        have hless := Vw.left_less hc2
        have hm63 := Wire.rNumber_i64 st 59 0
        have hm0 := Wire.rNumber_least st 59 0 (Int.le_refl 0)
        have hnl := Wire.rNumber_le st 59 0
        have htl := rtext_len (Wire.rNum st).2
        change -9223372036854775808 ≤ (Wire.rNum st).1 ∧ (Wire.rNum st).1 ≤ 9223372036854775807 at hm63
        change 0 ≤ (Wire.rNum st).1 at hm0
        change ((Wire.rNum st).2.getD []).length ≤ _ at hnl
        have c1' : Hid ((st.getD []).length ≤ 9223372036854775807) := by show _ ≤ _; omega
        have c2' : Hid (((Wire.rNum st).2.getD []).length ≤ 9223372036854775807) := by show _ ≤ _; omega
        have hgt : (0 : Int) < ((st.getD []).length : Int) := by omega
        have hL := fun z (h : Rdr tQ z b st) => LeftQ b st z h
        have hN := fun z (gz : Gl z) (h : Rdr tQ z b st) => NumQ b st z h c1'.out
        have hT := fun z (gz : Gl z) (h : Rdr tQ z b (Wire.rNum st).2) => TextQ b (Wire.rNum st).2 z h c2'.out
        have HL := Lib.hid hL
        have HN := Lib.hid hN
        have HT := Lib.hid hT
        have Hstep := Lib.hid hstep
        have Hless := Lib.hid hless
        have Hbnd : Hid (0 ≤ (Wire.rNum st).1 ∧ I64 (Wire.rNum st).1 ∧ (Wire.rText (Wire.rNum st).2).1.length ≤ s.length) := ⟨hm0, hm63, by omega⟩
        have h63 : Hid (l.length + 1 ≤ maxLen ∧ (l.length + 1) * 32 ≤ 140737488355328) := ⟨by unfold maxLen; omega, by omega⟩
        have hlf : Hid ((st.getD []).length < f' + 1 ∧ l.length + (st.getD []).length ≤ s.length) := ⟨hf, hl⟩
        clear hL hN hT hstep hless hm63 hm0 hnl htl R hrel hc2 hl hf
        generalize hSL : ((st.getD []).length : Int) = sl at *
        generalize hM : (Wire.rNum st).1 = m at *
        generalize hTX : (Wire.rText (Wire.rNum st).2).1 = tx at *
        have HSL := Lib.hid hSL
        clear hSL hM hTX
        go_wp2_with fail
        (with_reducible refine (HL.out _ HR.out.rd).mono ?_)
        rintro _ _ ⟨rfl, rfl⟩
        go_wp2_with fail
        (with_reducible refine (HN.out _ gw HR.out.rd).mono ?_)
        rintro _ x1 ⟨rfl, r1, v1⟩
        have g1 := gw.upd v1
        go_wp2_with fail
        (with_reducible refine (HT.out _ g1 r1).mono ?_)
        rintro _ x2 ⟨rfl, r2, v2⟩
        have V2 : Upd (· = b) wr x2 := v1.trans v2
        have hob : ∀ k, (Value.slice a l.length cap).ownBlock = some k → ¬ k = b := by
          rintro k hk rfl
          obtain ⟨_, cs, e1⟩ := own_block HR.out.own hk
          have e2 := HR.out.rd.2
          rw [e1] at e2
          injection e2 with e2
          injection e2 with _ e2
          exact absurd e2 (by decide)
        have hown2 : x2.ownsRow w.heap.size tSigned 3 (.slice a l.length cap) l.length (flatS l) := owns_upd' HR.out.own V2 hob
        have hsz := HR.out.nw.size
        have hsz2 := V2.size
        have Hown2 := Lib.hid hown2
        have Hob := Lib.hid hob
        clear hown2 hob
        go_wp2_with (at_builtin; refine wpList_appL rfl _ _ 27 rfl w.heap.size tSigned _ 3 32 Tryz.underlying27 infoSgn rfl (by decide) (.slice a l.length cap) l.length (flatS l) rfl Hown2.out (sgl ⟨key, tx, m⟩) rfl rfl (sgl_one _) h63.out.1 h63.out.2 (by omega) hgb ?_)
        intro v' w4 hown hu hob2
        obtain ⟨a2, cap2, rfl⟩ := own_sl hown
        have Hown := Lib.hid hown
        clear hown
        have hnb : ¬ (Value.slice a l.length cap).ownBlock = some b := fun e => Hob.out b e rfl
        have hfin : RdQ w b key n s (l ++ [⟨key, tx, m⟩]) (Wire.rText (Wire.rNum st).2).2 f' (.slice a2 (l.length + 1) cap2) w4 := by
          refine ⟨Hstep.out.symm.trans HR.out.it, by have := Hless.out; have := hlf.out.1; omega, r2.upd hu hnb, ?_, (HR.out.nw.trans' V2 (fun j hj e => by omega)).trans' hu (fun j hj e => by have := (own_block Hown2.out e).1; omega), ?_, ?_⟩
          · rw [List.length_append, flatS_snoc]; exact Hown.out
          · intro x hx
            rcases List.mem_append.1 hx with hx | hx
            · exact HR.out.all x hx
            · rw [List.mem_singleton.1 hx]
              exact ⟨rfl, Hbnd.out.1, Hbnd.out.2.1, Hbnd.out.2.2⟩
          · rw [List.length_append]
            have := Hless.out
            have := hlf.out.2
            simp only [List.length_cons, List.length_nil]
            omega
        have Hfin := Lib.hid hfin
        have hm1 : leftW w4 b < leftW wr b := by
          rw [left_rdr hfin.rd, left_rdr HR.out.rd]
          exact Hless.out
        clear hfin r1 r2
        go_wp2_with fail
        go_roundw
        case rel => exact ⟨_, _, _, Hfin.out⟩
        case measure => exact hm1
      · have hstep : Vw.itemsOf s = (l, st) := by rw [← HR.out.it, Vw.items, if_neg (fun e => hc2 e.2)]
        have hgt : ¬ (0 : Int) < ((st.getD []).length : Int) := by omega
        have HL := Lib.hid (fun z (h : Rdr tQ z b st) => LeftQ b st z h)
        generalize hSL : ((st.getD []).length : Int) = sl at *
        clear hSL hc2 hf
        go_wp2_with fail
        (with_reducible refine (HL.out _ HR.out.rd).mono ?_)
        rintro _ _ ⟨rfl, rfl⟩
        have Hstep := Lib.hid hstep
        have Hnv := Lib.hid (new_qv q.qb key wr gw)
        clear hstep R hrel hl
        go_wp2_with fail
        (with_reducible refine (Hnv.out).mono ?_)
        rintro _ x1 hnv
        rcases hnv with ⟨hkk, r, rfl, hr, v1⟩ | ⟨hkk, rfl, v1⟩
        rotate_left
        · have hres : Hid (Vw.readV Lr s = (none, 2)) := by show _ = _; rw [Hread.out, Hform.out, hkk]; simp
          have HD := Lib.hid (DoneQ b st x1 (HR.out.rd.nw v1))
          clear hkk
          generalize decide (st = some []) = dd at *
          go_wp2_with fail
          (with_reducible refine (HD.out).mono ?_)
          rintro _ _ ⟨rfl, rfl⟩
          cases dd
          all_goals go_wp2_with fail
          all_goals go_ret2
          all_goals exact hpost.out _ _ ⟨HR.out.nw.trans v1, Or.inr (by rw [hres.out]; exact ⟨rfl, rfl⟩)⟩
        have Hkk := Lib.hid hkk
        have HD := Lib.hid (DoneQ b st x1 (HR.out.rd.nw v1))
        have hgf : Vw.goodForm s = (decide (st = some []) && decide ((l.length : Int) = n)) := by rw [Hform.out, Hstep.out, hkk, Bool.and_true]
        clear hkk
        generalize decide (st = some []) = dd at *
        have Hgf := Lib.hid hgf
        clear hgf
        go_wp2_with fail
        (with_reducible refine (HD.out).mono ?_)
        rintro _ _ ⟨rfl, rfl⟩
        cases dd with
        | false =>
          have hres : Hid (Vw.readV Lr s = (none, 2)) := by show _ = _; rw [Hread.out, Hgf.out]; simp
          go_wp2_with fail
          go_ret2
          exact hpost.out _ _ ⟨HR.out.nw.trans v1, Or.inr (by rw [hres.out]; exact ⟨rfl, rfl⟩)⟩
        | true =>
        by_cases hln : (l.length : Int) = n
        rotate_left
        · have hres : Hid (Vw.readV Lr s = (none, 2)) := by show _ = _; rw [Hread.out, Hgf.out, decide_eq_false hln]; simp
          have dln : ((l.length : Int) == n) = false := beq_eq_false_iff_ne.2 hln
          have dln2 : ((l.length : Int) != n) = true := by simp [bne, dln]
          clear hln
          go_wp2_with fail
          go_ret2
          exact hpost.out _ _ ⟨HR.out.nw.trans v1, Or.inr (by rw [hres.out]; exact ⟨rfl, rfl⟩)⟩
        have dln : ((l.length : Int) == n) = true := beq_iff_eq.2 hln
        have dln2 : ((l.length : Int) != n) = false := by simp [bne, dln]
        have hres : Hid (Vw.readV Lr s = Vw.takeAll Lr key [] l) := by show _ = _; rw [Hread.out, Hgf.out, decide_eq_true hln, if_pos (by simp), Hstep.out]
        clear hln
        have hT0 : QRdT B w q Lr key r.cb (.slice a l.length cap) l [] x1 := by
          have s1 := HR.out.nw.size
          refine ⟨r, rfl, (Hq.out.nw HR.out.nw).nw v1, hr.base s1 hgb, Vw.VOk.nil _ _, owns_upd' HR.out.own v1 (fun _ _ e => e), fun j hj e => ?_, HR.out.nw.trans v1⟩
          obtain ⟨_, cs, e3⟩ := own_block HR.out.own hj
          have := lt_of_block e3
          have := (hr.foot_lt e).1
          omega
        have HT0 := Lib.hid hT0
        have Hall := Lib.hid HR.out.all
        have hl8 : Hid (l.length ≤ 800000) := by show _ ≤ _; have := HR.out.len; have := Hs.out; omega
        have hl63 : l.length ≤ 800000 := hl8.out
        clear hT0 hr v1 HR HD Hnv
        generalize r.cb = vb at *
        go_wp2_with fail
        go_loopw [13] (fun i wr => ∃ k : Nat, k ≤ l.length ∧ i = .int .i64 k ∧ Hid (∃ L, L.length ≤ k ∧ Vw.takeAll Lr key L (l.drop k) = Vw.takeAll Lr key [] l ∧ QRdT B w q Lr key vb (.slice a l.length cap) l L wr)) (fun i _ => l.length - (intOf i).toNat)
        case atStart => exact ⟨0, Nat.zero_le _, rfl, [], Nat.le_refl _, rfl, HT0.out⟩
        case round =>
          obtain ⟨k, hk, rfl, HK⟩ := hrel
          obtain ⟨L, hLk, hta, T⟩ := HK.out
          have gk := g.upd (qrdt_nw T)
          have hL9 : L.length ≤ 900000 := by omega
          by_cases hlt : k < l.length
          · have hdrop : l.drop k = l[k] :: l.drop (k + 1) := List.drop_eq_getElem_cons hlt
            rw [hdrop] at hta
            obtain ⟨hx1, hx2, hx3, hx4⟩ := Hall.out l[k] (List.getElem_mem hlt)
            have hcell : ∃ b o, a = some ⟨b, o, none⟩ ∧ wr.cell? ⟨b, o + k * 3, none⟩ = some (.int .i64 l[k].key) ∧ wr.cell? ⟨b, o + k * 3 + 1, none⟩ = some (.string ⟨l[k].text.toArray⟩) ∧ wr.cell? ⟨b, o + k * 3 + 2, none⟩ = some (.int .i64 l[k].mark) := by
              obtain ⟨r, h1, h2, h3, h4, h5, h6, h7⟩ := T
              exact rd_at8 h5 hlt
            obtain ⟨b0, o0, rfl, d0, d1, d2⟩ := hcell
            generalize l[k] = x at *
            have hxo : SgnOk x := ⟨by rw [hx1]; unfold I64; omega, by have := Hs.out; omega, hx3⟩
            have HT := Lib.hid T
            have Hta := Lib.hid hta
            have Hxo := Lib.hid hxo
            have HL9 := Lib.hid hL9
            have HLk := Lib.hid hLk
            clear T hta hxo hL9 hLk HK hdrop hx1 hx2 hx3 hx4
            have Hhd := Lib.hid (qrdt_had HT.out gk x HL9.out)
            generalize hmem : decide (x ∈ L) = dm at *
            have Hmem := Lib.hid hmem
            clear hmem
            go_wp2_with fail
            (with_reducible refine (Hhd.out).mono ?_)
            rintro _ w6 ⟨rfl, u6⟩
            have T6 := HT.out.nw u6
            obtain ⟨b1, o1, eb, e0, e1, e2⟩ : ∃ b1 o1, (some ⟨b0, o0, none⟩ : Option Addr) = some ⟨b1, o1, none⟩ ∧ w6.cell? ⟨b1, o1 + k * 3, none⟩ = some (.int .i64 x.key) ∧ w6.cell? ⟨b1, o1 + k * 3 + 1, none⟩ = some (.string ⟨x.text.toArray⟩) ∧ w6.cell? ⟨b1, o1 + k * 3 + 2, none⟩ = some (.int .i64 x.mark) := ⟨b0, o0, rfl, later_cell ⟨w6, u6⟩ d0, later_cell ⟨w6, u6⟩ d1, later_cell ⟨w6, u6⟩ d2⟩
            obtain ⟨rfl, rfl⟩ : b0 = b1 ∧ o0 = o1 := by simpa using eb
            clear d0 d1 d2 eb
            cases dm with
            | true =>
              have hfin : Hid (Vw.readV Lr s = (none, 5)) := by show _ = _; rw [hres.out, ← Hta.out, Vw.takeAll, if_pos (of_decide_eq_true Hmem.out)]
              have hn6 := qrdt_nw T6
              clear T6
              go_wp2_with fail
              go_ret2
              exact hpost.out _ _ ⟨hn6, Or.inr (by rw [hfin.out]; exact ⟨rfl, rfl⟩)⟩
            | false =>
            have HT6 := Lib.hid T6
            clear T6
            have hacl := Vw.accept_len Lr key L x
            obtain ⟨e, L', hac⟩ : ∃ e L', Vw.accept Lr key L x = (e, L') := ⟨_, _, rfl⟩
            rw [hac] at hacl
            dsimp only at hacl
            have hta2 := Hta.out
            rw [Vw.takeAll, if_neg (of_decide_eq_false Hmem.out), hac] at hta2
            dsimp only at hta2
            have hacc := qrdt_acc HT6.out hqlt Hn.out HLr.out (g.upd (qrdt_nw HT6.out)) x Hxo.out HL9.out
            rw [hac] at hacc
            dsimp only at hacc
            have Hacc := Lib.hid hacc
            have Hta2 := Lib.hid hta2
            have Hacl := Lib.hid hacl
            clear hacc hta2 hac hacl
            go_wp2_with fail
            (with_reducible refine (Hacc.out).mono ?_)
            rintro _ w7 ⟨rfl, T7⟩
            by_cases he : e = 0
            · subst he
              have HT7 := Lib.hid T7
              clear T7
              go_wp2_with fail
              go_roundw
              case rel => exact ⟨k + 1, by omega, by go_num, L', by have := Hacl.out; have := HLk.out; omega, by have := Hta2.out; rwa [if_neg (by simp)] at this, HT7.out⟩
              case measure => simp [intOf]; omega
            · have hfin : Hid (Vw.readV Lr s = (none, e)) := by show _ = _; rw [hres.out, ← Hta2.out, if_pos he]
              have hn7 := qrdt_nw T7
              have de : (e == 0) = false := beq_eq_false_iff_ne.2 he
              have de2 : (e != 0) = true := by simp [bne, de]
              clear T7 he
              go_wp2_with fail
              go_ret2
              exact hpost.out _ _ ⟨hn7, Or.inr (by rw [hfin.out]; exact ⟨rfl, rfl⟩)⟩
          · obtain rfl : k = l.length := by omega
            rw [List.drop_length] at hta
            have hfin : Hid (Vw.readV Lr s = (some L, 0)) := by show _ = _; rw [hres.out, ← hta]; rfl
            have HT := Lib.hid T
            clear T hta HK
            go_wp2_with fail
            go_ret2
            obtain ⟨r, rfl, h2, h3, h4, h5, h6, h7⟩ := HT.out
            exact hpost.out _ _ ⟨h7, Or.inl ⟨L, r, hfin.out, rfl, h3, h4⟩⟩
    · have hstep : Vw.itemsOf s = (l, st) := by rw [← HR.out.it, Vw.items, if_neg (fun e => hc1 e.1)]
      clear hf
      have Hstep := Lib.hid hstep
      have Hnv := Lib.hid (new_qv q.qb key wr gw)
      clear hstep R hrel hl
      go_wp2_with fail
      (with_reducible refine (Hnv.out).mono ?_)
      rintro _ x1 hnv
      rcases hnv with ⟨hkk, r, rfl, hr, v1⟩ | ⟨hkk, rfl, v1⟩
      rotate_left
      · have hres : Hid (Vw.readV Lr s = (none, 2)) := by show _ = _; rw [Hread.out, Hform.out, hkk]; simp
        have HD := Lib.hid (DoneQ b st x1 (HR.out.rd.nw v1))
        clear hkk
        generalize decide (st = some []) = dd at *
        go_wp2_with fail
        (with_reducible refine (HD.out).mono ?_)
        rintro _ _ ⟨rfl, rfl⟩
        cases dd
        all_goals go_wp2_with fail
        all_goals go_ret2
        all_goals exact hpost.out _ _ ⟨HR.out.nw.trans v1, Or.inr (by rw [hres.out]; exact ⟨rfl, rfl⟩)⟩
      have Hkk := Lib.hid hkk
      have HD := Lib.hid (DoneQ b st x1 (HR.out.rd.nw v1))
      have hgf : Vw.goodForm s = (decide (st = some []) && decide ((l.length : Int) = n)) := by rw [Hform.out, Hstep.out, hkk, Bool.and_true]
      clear hkk
      generalize decide (st = some []) = dd at *
      have Hgf := Lib.hid hgf
      clear hgf
      go_wp2_with fail
      (with_reducible refine (HD.out).mono ?_)
      rintro _ _ ⟨rfl, rfl⟩
      cases dd with
      | false =>
        have hres : Hid (Vw.readV Lr s = (none, 2)) := by show _ = _; rw [Hread.out, Hgf.out]; simp
        go_wp2_with fail
        go_ret2
        exact hpost.out _ _ ⟨HR.out.nw.trans v1, Or.inr (by rw [hres.out]; exact ⟨rfl, rfl⟩)⟩
      | true =>
      by_cases hln : (l.length : Int) = n
      rotate_left
      · have hres : Hid (Vw.readV Lr s = (none, 2)) := by show _ = _; rw [Hread.out, Hgf.out, decide_eq_false hln]; simp
        have dln : ((l.length : Int) == n) = false := beq_eq_false_iff_ne.2 hln
        have dln2 : ((l.length : Int) != n) = true := by simp [bne, dln]
        clear hln
        go_wp2_with fail
        go_ret2
        exact hpost.out _ _ ⟨HR.out.nw.trans v1, Or.inr (by rw [hres.out]; exact ⟨rfl, rfl⟩)⟩
      have dln : ((l.length : Int) == n) = true := beq_iff_eq.2 hln
      have dln2 : ((l.length : Int) != n) = false := by simp [bne, dln]
      have hres : Hid (Vw.readV Lr s = Vw.takeAll Lr key [] l) := by show _ = _; rw [Hread.out, Hgf.out, decide_eq_true hln, if_pos (by simp), Hstep.out]
      clear hln
      have hT0 : QRdT B w q Lr key r.cb (.slice a l.length cap) l [] x1 := by
        have s1 := HR.out.nw.size
        refine ⟨r, rfl, (Hq.out.nw HR.out.nw).nw v1, hr.base s1 hgb, Vw.VOk.nil _ _, owns_upd' HR.out.own v1 (fun _ _ e => e), fun j hj e => ?_, HR.out.nw.trans v1⟩
        obtain ⟨_, cs, e3⟩ := own_block HR.out.own hj
        have := lt_of_block e3
        have := (hr.foot_lt e).1
        omega
      have HT0 := Lib.hid hT0
      have Hall := Lib.hid HR.out.all
      have hl8 : Hid (l.length ≤ 800000) := by show _ ≤ _; have := HR.out.len; have := Hs.out; omega
      have hl63 : l.length ≤ 800000 := hl8.out
      clear hT0 hr v1 HR HD Hnv
      generalize r.cb = vb at *
      go_wp2_with fail
      go_loopw [13] (fun i wr => ∃ k : Nat, k ≤ l.length ∧ i = .int .i64 k ∧ Hid (∃ L, L.length ≤ k ∧ Vw.takeAll Lr key L (l.drop k) = Vw.takeAll Lr key [] l ∧ QRdT B w q Lr key vb (.slice a l.length cap) l L wr)) (fun i _ => l.length - (intOf i).toNat)
      case atStart => exact ⟨0, Nat.zero_le _, rfl, [], Nat.le_refl _, rfl, HT0.out⟩
      case round =>
        obtain ⟨k, hk, rfl, HK⟩ := hrel
        obtain ⟨L, hLk, hta, T⟩ := HK.out
        have gk := g.upd (qrdt_nw T)
        have hL9 : L.length ≤ 900000 := by omega
        by_cases hlt : k < l.length
        · have hdrop : l.drop k = l[k] :: l.drop (k + 1) := List.drop_eq_getElem_cons hlt
          rw [hdrop] at hta
          obtain ⟨hx1, hx2, hx3, hx4⟩ := Hall.out l[k] (List.getElem_mem hlt)
          have hcell : ∃ b o, a = some ⟨b, o, none⟩ ∧ wr.cell? ⟨b, o + k * 3, none⟩ = some (.int .i64 l[k].key) ∧ wr.cell? ⟨b, o + k * 3 + 1, none⟩ = some (.string ⟨l[k].text.toArray⟩) ∧ wr.cell? ⟨b, o + k * 3 + 2, none⟩ = some (.int .i64 l[k].mark) := by
            obtain ⟨r, h1, h2, h3, h4, h5, h6, h7⟩ := T
            exact rd_at8 h5 hlt
          obtain ⟨b0, o0, rfl, d0, d1, d2⟩ := hcell
          generalize l[k] = x at *
          have hxo : SgnOk x := ⟨by rw [hx1]; unfold I64; omega, by have := Hs.out; omega, hx3⟩
          have HT := Lib.hid T
          have Hta := Lib.hid hta
          have Hxo := Lib.hid hxo
          have HL9 := Lib.hid hL9
          have HLk := Lib.hid hLk
          clear T hta hxo hL9 hLk HK hdrop hx1 hx2 hx3 hx4
          have Hhd := Lib.hid (qrdt_had HT.out gk x HL9.out)
          generalize hmem : decide (x ∈ L) = dm at *
          have Hmem := Lib.hid hmem
          clear hmem
          go_wp2_with fail
          (with_reducible refine (Hhd.out).mono ?_)
          rintro _ w6 ⟨rfl, u6⟩
          have T6 := HT.out.nw u6
          obtain ⟨b1, o1, eb, e0, e1, e2⟩ : ∃ b1 o1, (some ⟨b0, o0, none⟩ : Option Addr) = some ⟨b1, o1, none⟩ ∧ w6.cell? ⟨b1, o1 + k * 3, none⟩ = some (.int .i64 x.key) ∧ w6.cell? ⟨b1, o1 + k * 3 + 1, none⟩ = some (.string ⟨x.text.toArray⟩) ∧ w6.cell? ⟨b1, o1 + k * 3 + 2, none⟩ = some (.int .i64 x.mark) := ⟨b0, o0, rfl, later_cell ⟨w6, u6⟩ d0, later_cell ⟨w6, u6⟩ d1, later_cell ⟨w6, u6⟩ d2⟩
          obtain ⟨rfl, rfl⟩ : b0 = b1 ∧ o0 = o1 := by simpa using eb
          clear d0 d1 d2 eb
          cases dm with
          | true =>
            have hfin : Hid (Vw.readV Lr s = (none, 5)) := by show _ = _; rw [hres.out, ← Hta.out, Vw.takeAll, if_pos (of_decide_eq_true Hmem.out)]
            have hn6 := qrdt_nw T6
            clear T6
            go_wp2_with fail
            go_ret2
            exact hpost.out _ _ ⟨hn6, Or.inr (by rw [hfin.out]; exact ⟨rfl, rfl⟩)⟩
          | false =>
          have HT6 := Lib.hid T6
          clear T6
          have hacl := Vw.accept_len Lr key L x
          obtain ⟨e, L', hac⟩ : ∃ e L', Vw.accept Lr key L x = (e, L') := ⟨_, _, rfl⟩
          rw [hac] at hacl
          dsimp only at hacl
          have hta2 := Hta.out
          rw [Vw.takeAll, if_neg (of_decide_eq_false Hmem.out), hac] at hta2
          dsimp only at hta2
          have hacc := qrdt_acc HT6.out hqlt Hn.out HLr.out (g.upd (qrdt_nw HT6.out)) x Hxo.out HL9.out
          rw [hac] at hacc
          dsimp only at hacc
          have Hacc := Lib.hid hacc
          have Hta2 := Lib.hid hta2
          have Hacl := Lib.hid hacl
          clear hacc hta2 hac hacl
          go_wp2_with fail
          (with_reducible refine (Hacc.out).mono ?_)
          rintro _ w7 ⟨rfl, T7⟩
          by_cases he : e = 0
          · subst he
            have HT7 := Lib.hid T7
            clear T7
            go_wp2_with fail
            go_roundw
            case rel => exact ⟨k + 1, by omega, by go_num, L', by have := Hacl.out; have := HLk.out; omega, by have := Hta2.out; rwa [if_neg (by simp)] at this, HT7.out⟩
            case measure => simp [intOf]; omega
          · have hfin : Hid (Vw.readV Lr s = (none, e)) := by show _ = _; rw [hres.out, ← Hta2.out, if_pos he]
            have hn7 := qrdt_nw T7
            have de : (e == 0) = false := beq_eq_false_iff_ne.2 he
            have de2 : (e != 0) = true := by simp [bne, de]
            clear T7 he
            go_wp2_with fail
            go_ret2
            exact hpost.out _ _ ⟨hn7, Or.inr (by rw [hfin.out]; exact ⟨rfl, rfl⟩)⟩
        · obtain rfl : k = l.length := by omega
          rw [List.drop_length] at hta
          have hfin : Hid (Vw.readV Lr s = (some L, 0)) := by show _ = _; rw [hres.out, ← hta]; rfl
          have HT := Lib.hid T
          clear T hta HK
          go_wp2_with fail
          go_ret2
          obtain ⟨r, rfl, h2, h3, h4, h5, h6, h7⟩ := HT.out
          exact hpost.out _ _ ⟨h7, Or.inl ⟨L, r, hfin.out, rfl, h3, h4⟩⟩
end Go.Proofs.YtidmehiboceobaaGreatDoor
