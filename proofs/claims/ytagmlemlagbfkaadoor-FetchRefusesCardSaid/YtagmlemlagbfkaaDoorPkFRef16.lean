/- The walk of FetchRefuses. -/
import Derived.Test.YtagmlemlagbfkaaDoorPkFRef13
import Derived.Test.YtagmlemlagbfkaaDoorPkFRef15
import Derived.Test.YtagmlemlagbfkaaDoorPkFRef0
namespace Go.Proofs.YtagmlemlagbfkaaDoor
open Go.RowKit
set_option linter.unusedVariables false
set_option linter.unusedSimpArgs false
attribute [local irreducible] Calls

theorem take60R (s : ByteArray) : s.extract 0 (min (s.size : Int) 60).toNat = ⟨(s.data.toList.take 60).toArray⟩ := by
  rw [← bs_eta (s.extract 0 (min (s.size : Int) 60).toNat), bs_extract_list]
  congr 2
  have h := bs_size s
  rw [List.drop_zero, Nat.sub_zero]
  by_cases hc : s.size ≤ 60
  · rw [List.take_of_length_le (by omega), List.take_of_length_le (by omega)]
  · have : (min (s.size : Int) 60).toNat = 60 := by omega
    rw [this]
def digB : List UInt8 := [48, 49, 50, 51, 52, 53, 54, 55, 56, 57]
/-- A manifest's box. -/
def manO (p z : Int) (cv : Value) : Obj := .cells #[.int .i64 p, .int .i64 z, cv] tManU
theorem man_cells {w : World} {b : Nat} {p z : Int} {cv : Value} (h : w.heap[b]? = some (manO p z cv)) : w.cell? ⟨b, 0, none⟩ = some (.int .i64 p) ∧ w.cell? ⟨b, 1, none⟩ = some (.int .i64 z) ∧ w.cell? ⟨b, 2, none⟩ = some cv := by
  unfold manO at h
  exact ⟨by rw [cells_cell h]; rfl, by rw [cells_cell h]; rfl, by rw [cells_cell h]; rfl⟩
set_option maxHeartbeats 32000000 in
set_option maxRecDepth 100000 in
theorem refuses_w (s : ByteArray) (hs : s.size ≤ 9223372036854775807) (z : Nat) (hz : z < 256) (i : Int) (hi : I64 i) (odd : List UInt8) (hodd : odd.length ≤ 9223372036854775807) (p zz : Int) (cv : Value) (l : List Int) (w : World) (g : Gl w) (hcv : Sl 0 w.heap.size w cv (l.map intD)) :
    Calls Tryd.prog 4 #[.string s, .int .u8 z, .int .i64 i, .string ⟨odd.toArray⟩, .agg #[.int .i64 p, .int .i64 zz, cv]] w fun e w' => e = .returned (.bool true) ∧ Nw w w' := by
  have hgb := g.big
  obtain ⟨ac, cc, rfl, hlm, -⟩ := int_cells hcv
  have nb : Nw w (w.alloc (.cells #[.int .i64 p, .int .i64 zz, .slice ac l.length cc] tManU)) := nw_alloc _ _
  have bb : (w.alloc (.cells #[.int .i64 p, .int .i64 zz, .slice ac l.length cc] tManU)).heap[w.heap.size]? = some (manO p zz (.slice ac l.length cc)) := heap_new _ _
  have HSm := Lib.hid (small38_c _ (g.upd nb))
  have hs1 : (s.size : Int) ≤ 9223372036854775807 := by omega
  have ho1 : (odd.length : Int) ≤ 9223372036854775807 := by omega
  have hl1 : (l.length : Int) ≤ 9223372036854775807 := by unfold maxLen at hlm; omega
  have htl : (s.data.toList.take 60).length ≤ 60 := List.length_take_le _ _
  have HCut := Lib.hid (fun (y : World) (u : Nw w y) => cut_c (s.data.toList.take 60) htl z hz y (g.upd u))
  rw [← take60R s] at HCut
  have HC := Lib.hid (Ft.cut_ok (cs0 := [otherB]) (by decide) (t := s.data.toList.take 60) (by show 1 + _ ≤ 85; omega) (by decide) htl (n := z % 9) (by omega))
  have hz1 : (z : Int) ≤ 255 := by omega
  have hcl := Ft.conts_len (cs0 := [otherB]) (t := s.data.toList.take 60) (n := z % 9)
  have NB := Lib.hid nb
  have BB := Lib.hid bb
  have HI := Lib.hid hi
  have HCV := Lib.hid hcv
  clear nb bb hcv hlm
  unfold I64 at hi
  obtain ⟨hi1, hi2⟩ := hi
  go_enter Tryd.func4, Tryd.ntmps4
  go_wp2_with fail
  (with_reducible refine (HSm.out).mono ?_)
  rintro _ w1 ⟨rfl, u1⟩
  have N1 := Lib.hid (NB.out.trans u1)
  have B1 := Lib.hid (u1.keep BB.out)
  have hcut := Lib.hid (HCut.out w1 N1.out)
  clear HCut HSm u1 BB
  go_wp2_with fail
  (with_reducible refine (hcut.out).mono ?_)
  rintro _ w2 ⟨v2, kv, rfl, hd⟩
  generalize hcs : Ck.conts [otherB] (s.data.toList.take 60) (z % 9) = cs at *
  generalize hm : Ck.man [otherB] (s.data.toList.take 60) (z % 9) = m at *
  obtain ⟨d1, d2, d3⟩ := hd
  rw [hcs] at d2
  rw [hm] at d3
  have hcl20 : cs.length ≤ 62 := by simp only [List.length_cons, List.length_nil] at hcl; omega
  clear hcs hm hcut hcl htl
  obtain ⟨mp, mz, mc⟩ := m
  dsimp only at *
  obtain ⟨av, cv2, rfl⟩ := own_slG d2
  obtain ⟨ak, ck, rfl⟩ := own_slG d3
  have N2 := Lib.hid (N1.out.trans d1)
  have B2 := d1.keep B1.out
  have nm : Nw w2 (w2.alloc (.cells #[.int .i64 mp, .int .i64 mz, .slice ak mc.length ck] tManU)) := nw_alloc _ _
  have bm : (w2.alloc (.cells #[.int .i64 mp, .int .i64 mz, .slice ak mc.length ck] tManU)).heap[w2.heap.size]? = some (manO mp mz (.slice ak mc.length ck)) := heap_new _ _
  have hn := Lib.hid (new_t _ (g.upd (N2.out.trans nm)))
  have HV := Lib.hid (owns_upd' d2 nm (fun _ _ e => e))
  have HK := Lib.hid (owns_upd' d3 nm (fun _ _ e => e))
  have HB1 := Lib.hid (nm.keep B2)
  have HBm := Lib.hid bm
  have HNm := Lib.hid (N2.out.trans nm)
  have hzm : w2.heap.size < (w2.alloc (.cells #[.int .i64 mp, .int .i64 mz, .slice ak mc.length ck] tManU)).heap.size := lt_of_block bm
  have HZm := Lib.hid hzm
  clear d1 d2 d3 B2 nm bm B1 hzm
  go_wp2_with fail
  (with_reducible refine (hn.out).mono ?_)
  rintro _ w4 ⟨db, rfl, s4⟩
  have n4 := s4.nw0
  have B4 := n4.keep HB1.out
  have Bm4 := n4.keep HBm.out
  obtain ⟨q0, q1, q2⟩ := man_cells B4
  obtain ⟨r0, r1, r2⟩ := man_cells Bm4
  have N4 := Lib.hid (HNm.out.trans n4)
  have HB4 := Lib.hid B4
  have HBm4 := Lib.hid Bm4
  have S4 := Lib.hid s4
  have hmc := HC.out.chunks
  dsimp only at hmc
  have hmc1 : (mc.length : Int) ≤ 60 := by omega
  have hmc0 : (0 : Int) ≤ mc.length := by omega
  clear n4 B4 Bm4 s4 hn HB1 HBm
  by_cases h1 : 100 < odd.length
  · have e1 : decide ((100 : Int) < odd.length) = true := decide_eq_true (by omega)
    clear h1
    go_wp2_with fail
    go_ret
    exact ⟨rfl, N4.out⟩
  have e1 : decide ((100 : Int) < odd.length) = false := decide_eq_false (by omega)
  by_cases h2 : 100 < l.length
  · have e2 : decide ((100 : Int) < l.length) = true := decide_eq_true (by omega)
    clear h1 h2
    go_wp2_with fail
    go_ret
    exact ⟨rfl, N4.out⟩
  have e2 : decide ((100 : Int) < l.length) = false := decide_eq_false (by omega)
  have Hodd : Hid (odd.length ≤ 100 ∧ l.length ≤ 100) := ⟨by omega, by omega⟩
  clear h1 h2
  -- the fetch is opened
  have HGW := Lib.hid (g.upd HNm.out)
  have hv4 := owns_upd' HV.out S4.out.nw0 (fun _ _ e => e)
  obtain ⟨D1, hf1, hup1⟩ := Ft.fopen_new (f := 0) (by omega) HC.out.right
  have ho := fopen_t (m := ⟨mp, mz, mc⟩) (cs := cs) S4.out HGW.out (f := 0) (I64_s (by decide)) hv4 (fun k e => Or.inr ((HV.out.lt k e).2)) ((Sl.of_owns HK.out).nw S4.out.nw0) (fun k h1 h2 => Or.inr h2) ⟨HC.out.len, HC.out.sm⟩ HC.out.nodup (by dsimp only; omega)
  rw [hf1] at ho
  have Ho := Lib.hid ho
  have HUp1 := Lib.hid hup1
  clear ho hf1 hup1 hv4
  go_wp2_with fail
  (with_reducible refine (Ho.out).mono ?_)
  rintro _ w5 ⟨pv, rfl, m5, f5⟩
  rcases f5 with ⟨e, _, _⟩ | ⟨j5, x5, e, rfl, s5⟩
  · cases e
  obtain rfl := Option.some.inj e
  obtain ⟨D2, j2, n2, hft⟩ := Ft.first_take (cs := cs) (m := ⟨mp, mz, mc⟩) HC.out.nodup HUp1.out i (t := odd) (by have := Hodd.out.1; omega)
  have ht := take_t s5 HGW.out (by dsimp only; omega) (by decide) HC.out.len HC.out.nodup HI.out (t := odd) (by have := Hodd.out.1; omega)
  unfold TakeD at ht
  rw [hft.eq] at ht
  have Ht := Lib.hid ht
  have HFt := Lib.hid hft
  have hWm : ∀ k, k < w2.heap.size + 1 → k < (w2.alloc (.cells #[.int .i64 mp, .int .i64 mz, .slice ak mc.length ck] tManU)).heap.size := fun k hk => by have := HZm.out; omega
  have hb5 := m5.keep HB4.out (fun s => by have := s.2; have := N2.out.size; have := HZm.out; omega)
  have hbm5 := m5.keep HBm4.out (fun s => by have := s.2; have := HZm.out; omega)
  have HB5 := Lib.hid hb5
  have HBm5 := Lib.hid hbm5
  obtain ⟨fb, hfb⟩ : ∃ fb, x5.fb = fb := ⟨_, rfl⟩
  rw [hfb] at Ht ⊢
  clear ht hft hWm hb5 hbm5 Ho s5 m5 e q0 q1 q2 r0 r1 r2
  go_wp2_with fail
  (with_reducible refine (Ht.out).mono ?_)
  rintro _ w6 ⟨rfl, x6, f6, s6, m6⟩
  have hb6 := m6.keep HB5.out (fun s => by have := s.2; have := N2.out.size; have := HZm.out; omega)
  have hbm6 := m6.keep HBm5.out (fun s => by have := s.2; have := HZm.out; omega)
  obtain ⟨r0, r1, r2⟩ := man_cells hbm6
  have hnw6 := s6.nw0
  have hv6 := owns_upd' HV.out hnw6 (fun _ _ e => e)
  have hk6 := owns_upd' HK.out hnw6 (fun _ _ e => e)
  have Hck := Lib.hid (check_c _ _ _ _ _ cs mp mz _ mc i HI.out odd w6 (Sl.of_owns hv6) HC.out.len (Sl.of_owns hk6) (by omega))
  have HB6 := Lib.hid hb6
  have HBm6 := Lib.hid hbm6
  have S6 := Lib.hid s6
  have HF6 := Lib.hid f6
  clear hb6 hbm6 hnw6 hv6 hk6 s6 m6 f6 hfb Ht
  go_wp2_with fail
  (with_reducible refine (Hck.out).mono ?_)
  rintro _ w7 ⟨rfl, u7⟩
  have S7 := Lib.hid (S6.out.nw u7)
  have HB7 := Lib.hid (u7.keep HB6.out)
  have HBm7 := Lib.hid (u7.keep HBm6.out)
  have nd7 : Nw w7 w7.drew := (Upd.refl _ _).drew
  have hM : Calls Tryd.prog 12 #[.pointer (some ⟨fb, 0, none⟩)] w7.drew fun e y => ∃ a c, e = .returned (.slice a (Ft.gone cs ⟨mp, mz, mc⟩ j2).length c) ∧ (y.cell? ⟨w2.heap.size, 2, none⟩ = some (.slice ak mc.length ck)) ∧ Hid (Nw w7 y) := by
    rw [← HF6.out]
    refine (fmissing_t (S7.out.nw nd7) HGW.out (by dsimp only; omega) (by have := HFt.out.small; omega)).mono ?_
    rintro e y ⟨v', rfl, o, u⟩
    obtain ⟨a, c, rfl⟩ := own_slG o
    exact ⟨a, c, rfl, (man_cells (Nw.keep (nd7.trans u) HBm7.out)).2.2, nd7.trans u⟩
  have HM := Lib.hid hM
  have hr7 := (man_cells HBm7.out).2.2
  have hgl := Ft.miss_len mc (Ft.come cs j2)
  have hgl1 : ((Ft.gone cs ⟨mp, mz, mc⟩ j2).length : Int) ≤ 60 := by show ((Ft.miss mc (Ft.come cs j2)).length : Int) ≤ 60; omega
  clear hM nd7 u7 Hck r0 r1 r2 hgl
  go_wp2_with fail
  go_region_held3 (fun y => y.cell? ⟨w2.heap.size, 2, none⟩ = some (.slice ak mc.length ck)) (first | exact hr7 | assumption | go_keep) (first | (go_at_call 12; (with_reducible refine HM.out.mono ?_); rintro _ w8 ⟨a8, c8, rfl, cy8, U8⟩))
  have S8 := Lib.hid (S7.out.nw U8.out)
  have HB8 := Lib.hid (Nw.keep U8.out HB7.out)
  have HBm8 := Lib.hid (Nw.keep U8.out HBm7.out)
  have HV8 := Lib.hid (owns_upd' HV.out S8.out.nw0 (fun _ _ e => e))
  have HK8 := Lib.hid (owns_upd' HK.out S8.out.nw0 (fun _ _ e => e))
  have N8 := Lib.hid (HNm.out.trans S8.out.nw0)
  have HCV8 := Lib.hid (HCV.out.nw N8.out)
  obtain ⟨r0, r1, r2⟩ := man_cells HBm8.out
  clear hr7 HM cy8 HB7 HBm7 S7 S6 HB6 HBm6 HB5 HBm5
  have hRW : ∀ b, Ft.rightM cs ⟨p, zz, l⟩ = b → Hid (Ft.rightM cs ⟨p, zz, l⟩ = b ∧ (Ft.fopen Dk.new 0 cs ⟨p, zz, l⟩).2.2 = (if b then 0 else 1) ∧ (Ft.fopen Dk.new 0 cs ⟨p, zz, l⟩).2.1.isSome = b) := fun b hb => by
    refine ⟨hb, ?_⟩
    cases b with
    | false => rw [Ft.fopen_bad hb]; exact ⟨rfl, rfl⟩
    | true =>
      obtain ⟨D9, h9, _⟩ := Ft.fopen_new (f := 0) (by omega) hb
      rw [h9]; exact ⟨rfl, rfl⟩
  have HRW := Lib.hid hRW
  clear hRW
  cases hin : Ft.checkM cs mc i odd with
  | true =>
    obtain ⟨y1, y2, y3⟩ := HFt.out.yes hin
    subst y1
    obtain ⟨k, hk, hik, hk1, hk2⟩ := Ft.check_in hin
    subst hik
    have e3 : (((Ft.gone cs ⟨mp, mz, mc⟩ j2).length : Int) == (mc.length : Int)) = false := by rw [beq_eq_false_iff_ne]; dsimp only at y3; omega
    have d5 : decide ((k : Int) < 0) = false := decide_eq_false (by omega)
    have d6 : decide ((mc.length : Int) ≤ (k : Int)) = false := decide_eq_false (by omega)
    have HY2 := Lib.hid y2
    have HK1 := Lib.hid (And.intro hk1 hk2)
    have HK0 := Lib.hid hk
    clear y2 y3 hk1 hk2 hin
    cases hrw : Ft.rightM cs ⟨p, zz, l⟩ with
    | true =>
      have hRW := HRW.out _ hrw
      clear hrw HRW
      go_wp2_with fail
      -- true: whether the other manifest is right; 0: the error
      have hdr : Nw w8 w8.drew := (Upd.refl _ _).drew
      obtain ⟨q0, q1, q2⟩ := man_cells (Nw.keep hdr HB8.out)
      have hNew : Calls Tryd.prog 8 #[] w8.drew fun e y => ∃ db2, e = .returned (.pointer (some ⟨db2, 0, none⟩)) ∧ (y.cell? ⟨w.heap.size, 0, none⟩ = some (.int .i64 p) ∧ y.cell? ⟨w.heap.size, 1, none⟩ = some (.int .i64 zz) ∧ y.cell? ⟨w.heap.size, 2, none⟩ = some (.slice ac l.length cc)) ∧
          Hid (Calls Tryd.prog 9 #[.pointer (some ⟨db2, 0, none⟩), .int .i64 0, .slice av cs.length cv2, .agg #[.int .i64 p, .int .i64 zz, .slice ac l.length cc]] y fun e y2 => (∃ pp, e = .returned (.tuple #[.pointer pp, .int .i64 0]) ∧ pp.isSome = true) ∧ (y2.cell? ⟨w.heap.size, 0, none⟩ = some (.int .i64 p) ∧ y2.cell? ⟨w.heap.size, 1, none⟩ = some (.int .i64 zz) ∧ y2.cell? ⟨w.heap.size, 2, none⟩ = some (.slice ac l.length cc)) ∧ Hid (Nw w8 y2)) := by
        refine (new_t w8.drew (g.upd (N8.out.trans hdr))).mono ?_
        rintro e y ⟨db2, rfl, sy⟩
        have ny := hdr.trans sy.nw0
        refine ⟨db2, rfl, man_cells (Nw.keep ny HB8.out), ?_⟩
        have hvy := owns_upd' HV8.out ny (fun _ _ e => e)
        refine (fopen_t (m := ⟨p, zz, l⟩) (cs := cs) sy (g.upd (N8.out.trans hdr)) (f := 0) (I64_s (by decide)) hvy (fun k e => Or.inr ((HV8.out.lt k e).2)) (HCV8.out.nw ny) (fun k h1 h2 => Or.inr (by have := N8.out.size; show k < w8.heap.size; omega)) ⟨HC.out.len, HC.out.sm⟩ HC.out.nodup (by dsimp only; have := Hodd.out.2; omega)).mono ?_
        rintro e y2 ⟨pv, rfl, mv, fv⟩
        have ny2 : Nw w8 y2 := ny.trans' mv (fun k hk s => by have := s.2; have e9 : w8.drew.heap.size = w8.heap.size := rfl; omega)
        refine ⟨?_, man_cells (Nw.keep ny2 HB8.out), ny2⟩
        have hR := hRW.out
        rcases fv with ⟨e1, rfl, _⟩ | ⟨j, x, e1, rfl, _⟩
        · rw [hR.2.1]
          refine ⟨none, rfl, ?_⟩
          rw [← hR.2.2, e1]; rfl
        · rw [hR.2.1]
          refine ⟨_, rfl, ?_⟩
          rw [← hR.2.2, e1]; rfl
      have HNew := Lib.hid hNew
      clear hNew hdr
      go_region_held3 (fun y => y.cell? ⟨w.heap.size, 0, none⟩ = some (.int .i64 p) ∧ y.cell? ⟨w.heap.size, 1, none⟩ = some (.int .i64 zz) ∧ y.cell? ⟨w.heap.size, 2, none⟩ = some (.slice ac l.length cc)) (first | exact ⟨q0, q1, q2⟩ | assumption | go_keep) (first | (go_at_call 8; (with_reducible refine HNew.out.mono ?_); rintro _ w9 ⟨db2, rfl, cy9, HOp⟩) | (go_at_call 9; (with_reducible refine HOp.out.mono ?_); rintro _ w10 ⟨⟨pp, rfl, hpp⟩, cy10, U10⟩))
      obtain ⟨px, rfl⟩ := Option.isSome_iff_exists.1 hpp
      -- true: whether the other manifest is right
      have hv10 := owns_upd' HV8.out U10.out (fun _ _ e => e)
      have hrt := right_c _ _ _ _ _ cs p zz _ l w10 (g.upd (N8.out.trans U10.out)) (Sl.of_owns hv10) ⟨HC.out.len, HC.out.sm⟩ HC.out.nodup (HCV8.out.nw U10.out) (by have := Hodd.out.2; omega)
      rw [hRW.out.1] at hrt
      have HRt := Lib.hid hrt
      have HV10 := Lib.hid hv10
      obtain ⟨q0', q1', q2'⟩ := cy10
      clear HNew HOp cy9 hv10 hrt hRW q0 q1 q2
      go_wp2_with fail
      (with_reducible refine (HRt.out).mono ?_)
      rintro _ w11 ⟨rfl, u11⟩
      have U11 := Lib.hid (U10.out.trans u11)
      have HV11 := Lib.hid (owns_upd' HV10.out u11 (fun _ _ e => e))
      have hof := of_c _ _ cs digB 2 (by decide) w11 (g.upd (N8.out.trans U11.out)) HV11.out ⟨HC.out.len, HC.out.sm⟩ (by have := hcl20; show cs.length + 10 ≤ 85; omega) HC.out.nodup (by decide)
      have HOf : Hid (Calls Tryd.prog 14 #[.slice av cs.length cv2, .string ⟨#[48, 49, 50, 51, 52, 53, 54, 55, 56, 57]⟩, .int .i64 3] w11 _) := hof
      clear hof u11 HRt q0' q1' q2' U10 HV10
      go_wp2_with fail
      (with_reducible refine (HOf.out).mono ?_)
      rintro _ w12 ⟨v12, kv12, rfl, hd12⟩
      generalize hcs2 : Ck.conts cs digB 2 = cs2 at *
      generalize hm2 : Ck.man cs digB 2 = m2 at *
      obtain ⟨g1, g2, g3⟩ := hd12
      rw [hcs2] at g2
      rw [hm2] at g3
      have HC2 : Hid (Ft.Cut cs2 m2 digB) := by
        show Ft.Cut cs2 m2 digB
        rw [← hcs2, ← hm2]
        exact Ft.cut_ok HC.out.nodup (by have := hcl20; show cs.length + 10 ≤ 85; omega) HC.out.sm (by decide) (by decide)
      have HMo : Hid (∃ r, cs2 = cs ++ r) := by
        show ∃ r, cs2 = cs ++ r
        rw [← hcs2]
        exact Ft.conts_more _ _ _
      clear hcs2 hm2 HOf
      obtain ⟨m2p, m2z, m2c⟩ := m2
      dsimp only at *
      obtain ⟨a12, c12, rfl⟩ := own_slG g2
      obtain ⟨b12, e12, rfl⟩ := own_slG g3
      have hbn : (w12.alloc (.cells #[.int .i64 m2p, .int .i64 m2z, .slice b12 m2c.length e12] tManU)).heap[w12.heap.size]? = some (manO m2p m2z (.slice b12 m2c.length e12)) := heap_new _ _
      have nbn : Nw w12 (w12.alloc (.cells #[.int .i64 m2p, .int .i64 m2z, .slice b12 m2c.length e12] tManU)) := nw_alloc _ _
      have U13 := Lib.hid (U11.out.trans (g1.trans nbn))
      have U12 := Lib.hid (U11.out.trans g1)
      have HV12 := Lib.hid g2
      have HK12 := Lib.hid g3
      have HN12 := Lib.hid nbn
      have HBn := Lib.hid hbn
      have HZ12 := Lib.hid g1.size
      have HZ13 := Lib.hid (lt_of_block hbn)
      have HU11z := Lib.hid U11.out.size
      clear g1 g2 g3 hbn nbn U11 HV11
      go_wp2_with fail
      have hbm13 := Nw.keep U13.out HBm8.out
      have r2' := (man_cells hbm13).2.2
      have t2' := (man_cells HBn.out).2.2
      have hk13 := owns_upd' HK8.out U13.out (fun _ _ e => e)
      obtain ⟨_, _, e13, _, hc13⟩ := int_cells (Sl.of_owns hk13)
      rcases hc13 with hnil | ⟨bk, ok, e13b, _, _, hcell⟩
      · rw [hnil] at hk; simp at hk
      injection e13 with f1 f2 f3
      subst f1 f3
      subst e13b
      have ck0 := hcell k hk
      have nd13 := (nw_alloc (w12.alloc (.cells #[.int .i64 m2p, .int .i64 m2z, .slice b12 m2c.length e12] tManU)) (.cells #[.int .i64 mc[k]] 3)).drew
      have hsl1 := sl_lit (Nw.keep ((Upd.refl (fun _ => False) _).drew) (heap_new (w12.alloc (.cells #[.int .i64 m2p, .int .i64 m2z, .slice b12 m2c.length e12] tManU)) (.cells ([mc[k]].map intD).toArray 3))) (by simp)
      have hwi := within_c _ _ _ _ _ _ [mc[k]] m2c _ hsl1 ((Sl.of_owns HK12.out).nw (HN12.out.trans nd13)) (by simp) (by have := HC2.out.chunks; dsimp only at this; omega)
      rw [World.size_alloc] at hwi
      have HWi : Hid (Calls Tryd.prog 15 #[.slice (some ⟨w12.heap.size + 1, 0, none⟩) 1 1, .slice b12 m2c.length e12] ((w12.alloc (.cells #[.int .i64 m2p, .int .i64 m2z, .slice b12 m2c.length e12] tManU)).alloc (.cells #[.int .i64 mc[k]] 3)).drew fun e w' => e = .returned (.bool (wdB [mc[k]] m2c)) ∧ Nw ((w12.alloc (.cells #[.int .i64 m2p, .int .i64 m2z, .slice b12 m2c.length e12] tManU)).alloc (.cells #[.int .i64 mc[k]] 3)).drew w') := hwi
      have HKc := Lib.hid (fun (y : World) (u : Nw (w12.alloc (.cells #[.int .i64 m2p, .int .i64 m2z, .slice b12 m2c.length e12] tManU)) y) => (show y.cell? ⟨w2.heap.size, 2, none⟩ = some (.slice (some ⟨bk, ok, none⟩) mc.length ck) ∧ y.cell? ⟨bk, ok + k, none⟩ = some (.int .i64 mc[k]) ∧ y.cell? ⟨w12.heap.size, 2, none⟩ = some (.slice b12 m2c.length e12) from ⟨nw_cell u r2', nw_cell u ck0, nw_cell u t2'⟩))
      have HND := Lib.hid nd13
      have hk4 : (k : Int) < mc.length := by omega
      have hmm : max 0 (min (k : Int) ((mc.length : Int) - 1)) = k := by omega
      have hwr : IntKind.i64.wrap ((mc.length : Int) - 1) = (mc.length : Int) - 1 := by rw [IntKind.wrap_i64]; omega
      clear hcell hk13 hbm13 nd13 hsl1 hwi
      go_region_held3 (fun y => y.cell? ⟨w2.heap.size, 2, none⟩ = some (.slice (some ⟨bk, ok, none⟩) mc.length ck) ∧ y.cell? ⟨bk, ok + k, none⟩ = some (.int .i64 mc[k]) ∧ y.cell? ⟨w12.heap.size, 2, none⟩ = some (.slice b12 m2c.length e12)) (with_reducible first | exact HKc.out _ (Upd.refl _ _).drew | exact HKc.out _ HND.out | exact HKc.out _ (HND.out.trans uwi) | go_keep) (first | (go_at_call 15; (with_reducible refine HWi.out.mono ?_); rintro _ w14 ⟨rfl, uwi⟩))
      have U14 := Lib.hid (U13.out.trans (HND.out.trans uwi))
      have V14 := Lib.hid (HN12.out.trans (HND.out.trans uwi))
      have HV13 := Lib.hid (HND.out.trans uwi)
      clear hwr hmm HWi HKc r2' t2' ck0 uwi
      cases hwd : wdB [mc[k]] m2c with
      | true =>
        clear hwd
        go_wp2_with fail
        go_ret
        exact ⟨rfl, N8.out.trans U14.out⟩
      | false =>
        have HRes : Hid (∃ D3, Ft.fopen D2 0 cs2 ⟨m2p, m2z, m2c⟩ = (D3, none, 28)) := by
          obtain ⟨r, hr⟩ := HMo.out
          have hj := HY2.out
          obtain ⟨D3, h3⟩ := Ft.fopen_other HFt.out.up (by rw [hj]) (fun x hx => by rw [hj] at hx; rw [List.mem_singleton.1 hx]; have := Hodd.out.1; omega) HC2.out.right
          refine ⟨D3, ?_⟩
          have hno : mc[k] ∉ m2c := fun h => by
            unfold wdB at hwd
            rw [List.all_cons, decide_eq_true h] at hwd
            cases hwd
          have hf : Ft.fitsJ cs2 ⟨m2p, m2z, m2c⟩ ⟨0, j2.recs, false⟩ = false := by
            rw [hj]
            show (decide (Ft.prOf cs2 odd ∈ m2c) && true) = false
            have e : Ft.prOf cs2 odd = mc[k] := by
              rw [← HK1.out.2, hr]
              exact Ft.pr_more (by rw [← hr]; exact HC2.out.nodup) HK1.out.1
            rw [e, decide_eq_false hno]; rfl
          rw [h3, hf]; rfl
        clear hwd
        -- w14: the world; what the file opened anew gives: none, 28
        obtain ⟨D3, hres⟩ := HRes.out
        have hfo := fopen_t (m := ⟨m2p, m2z, m2c⟩) (cs := cs2) ((S8.out.forget).keep (F' := fun k => w11.heap.size ≤ k ∧ k < w12.heap.size) U14.out (fun k hk => Or.inr ⟨by have := hk.1; have := HU11z.out; omega, by have := hk.2; have := V14.out.size; omega⟩)) HGW.out (f := 0) (I64_s (by decide)) (owns_upd' HV12.out V14.out (fun _ _ e => e)) (fun k e => Or.inl (HV12.out.lt k e)) ((Sl.of_owns HK12.out).nw V14.out) (fun k h1 h2 => Or.inl ⟨h1, h2⟩) ⟨HC2.out.len, HC2.out.sm⟩ HC2.out.nodup (by have := HC2.out.chunks; dsimp only at this ⊢; omega)
        rw [hres] at hfo
        have HFo := Lib.hid hfo
        obtain ⟨t0, t1, t2⟩ := man_cells (Nw.keep HV13.out HBn.out)
        clear hfo hres
        go_wp2_with fail
        (with_reducible refine (HFo.out).mono ?_)
        rintro _ w15 ⟨pv15, rfl, m15, f15⟩
        rcases f15 with ⟨_, rfl, s15⟩ | ⟨_, _, e, _, _⟩
        · have NE := Lib.hid (HNm.out.trans s15.nw0)
          clear s15
          go_wp2_with fail
          go_ret
          exact ⟨rfl, NE.out⟩
        · cases e
    | false =>
      have hRW := HRW.out _ hrw
      clear hrw HRW
      go_wp2_with fail
      -- false: whether the other manifest is right; 1: the error
      have hdr : Nw w8 w8.drew := (Upd.refl _ _).drew
      obtain ⟨q0, q1, q2⟩ := man_cells (Nw.keep hdr HB8.out)
      have hNew : Calls Tryd.prog 8 #[] w8.drew fun e y => ∃ db2, e = .returned (.pointer (some ⟨db2, 0, none⟩)) ∧ (y.cell? ⟨w.heap.size, 0, none⟩ = some (.int .i64 p) ∧ y.cell? ⟨w.heap.size, 1, none⟩ = some (.int .i64 zz) ∧ y.cell? ⟨w.heap.size, 2, none⟩ = some (.slice ac l.length cc)) ∧
          Hid (Calls Tryd.prog 9 #[.pointer (some ⟨db2, 0, none⟩), .int .i64 0, .slice av cs.length cv2, .agg #[.int .i64 p, .int .i64 zz, .slice ac l.length cc]] y fun e y2 => (∃ pp, e = .returned (.tuple #[.pointer pp, .int .i64 1]) ∧ pp.isSome = false) ∧ (y2.cell? ⟨w.heap.size, 0, none⟩ = some (.int .i64 p) ∧ y2.cell? ⟨w.heap.size, 1, none⟩ = some (.int .i64 zz) ∧ y2.cell? ⟨w.heap.size, 2, none⟩ = some (.slice ac l.length cc)) ∧ Hid (Nw w8 y2)) := by
        refine (new_t w8.drew (g.upd (N8.out.trans hdr))).mono ?_
        rintro e y ⟨db2, rfl, sy⟩
        have ny := hdr.trans sy.nw0
        refine ⟨db2, rfl, man_cells (Nw.keep ny HB8.out), ?_⟩
        have hvy := owns_upd' HV8.out ny (fun _ _ e => e)
        refine (fopen_t (m := ⟨p, zz, l⟩) (cs := cs) sy (g.upd (N8.out.trans hdr)) (f := 0) (I64_s (by decide)) hvy (fun k e => Or.inr ((HV8.out.lt k e).2)) (HCV8.out.nw ny) (fun k h1 h2 => Or.inr (by have := N8.out.size; show k < w8.heap.size; omega)) ⟨HC.out.len, HC.out.sm⟩ HC.out.nodup (by dsimp only; have := Hodd.out.2; omega)).mono ?_
        rintro e y2 ⟨pv, rfl, mv, fv⟩
        have ny2 : Nw w8 y2 := ny.trans' mv (fun k hk s => by have := s.2; have e9 : w8.drew.heap.size = w8.heap.size := rfl; omega)
        refine ⟨?_, man_cells (Nw.keep ny2 HB8.out), ny2⟩
        have hR := hRW.out
        rcases fv with ⟨e1, rfl, _⟩ | ⟨j, x, e1, rfl, _⟩
        · rw [hR.2.1]
          refine ⟨none, rfl, ?_⟩
          rw [← hR.2.2, e1]; rfl
        · rw [hR.2.1]
          refine ⟨_, rfl, ?_⟩
          rw [← hR.2.2, e1]; rfl
      have HNew := Lib.hid hNew
      clear hNew hdr
      go_region_held3 (fun y => y.cell? ⟨w.heap.size, 0, none⟩ = some (.int .i64 p) ∧ y.cell? ⟨w.heap.size, 1, none⟩ = some (.int .i64 zz) ∧ y.cell? ⟨w.heap.size, 2, none⟩ = some (.slice ac l.length cc)) (first | exact ⟨q0, q1, q2⟩ | assumption | go_keep) (first | (go_at_call 8; (with_reducible refine HNew.out.mono ?_); rintro _ w9 ⟨db2, rfl, cy9, HOp⟩) | (go_at_call 9; (with_reducible refine HOp.out.mono ?_); rintro _ w10 ⟨⟨pp, rfl, hpp⟩, cy10, U10⟩))
      obtain rfl : pp = none := by simpa using hpp
      -- false: whether the other manifest is right
      have hv10 := owns_upd' HV8.out U10.out (fun _ _ e => e)
      have hrt := right_c _ _ _ _ _ cs p zz _ l w10 (g.upd (N8.out.trans U10.out)) (Sl.of_owns hv10) ⟨HC.out.len, HC.out.sm⟩ HC.out.nodup (HCV8.out.nw U10.out) (by have := Hodd.out.2; omega)
      rw [hRW.out.1] at hrt
      have HRt := Lib.hid hrt
      have HV10 := Lib.hid hv10
      obtain ⟨q0', q1', q2'⟩ := cy10
      clear HNew HOp cy9 hv10 hrt hRW q0 q1 q2
      go_wp2_with fail
      (with_reducible refine (HRt.out).mono ?_)
      rintro _ w11 ⟨rfl, u11⟩
      have U11 := Lib.hid (U10.out.trans u11)
      have HV11 := Lib.hid (owns_upd' HV10.out u11 (fun _ _ e => e))
      have hof := of_c _ _ cs digB 2 (by decide) w11 (g.upd (N8.out.trans U11.out)) HV11.out ⟨HC.out.len, HC.out.sm⟩ (by have := hcl20; show cs.length + 10 ≤ 85; omega) HC.out.nodup (by decide)
      have HOf : Hid (Calls Tryd.prog 14 #[.slice av cs.length cv2, .string ⟨#[48, 49, 50, 51, 52, 53, 54, 55, 56, 57]⟩, .int .i64 3] w11 _) := hof
      clear hof u11 HRt q0' q1' q2' U10 HV10
      go_wp2_with fail
      (with_reducible refine (HOf.out).mono ?_)
      rintro _ w12 ⟨v12, kv12, rfl, hd12⟩
      generalize hcs2 : Ck.conts cs digB 2 = cs2 at *
      generalize hm2 : Ck.man cs digB 2 = m2 at *
      obtain ⟨g1, g2, g3⟩ := hd12
      rw [hcs2] at g2
      rw [hm2] at g3
      have HC2 : Hid (Ft.Cut cs2 m2 digB) := by
        show Ft.Cut cs2 m2 digB
        rw [← hcs2, ← hm2]
        exact Ft.cut_ok HC.out.nodup (by have := hcl20; show cs.length + 10 ≤ 85; omega) HC.out.sm (by decide) (by decide)
      have HMo : Hid (∃ r, cs2 = cs ++ r) := by
        show ∃ r, cs2 = cs ++ r
        rw [← hcs2]
        exact Ft.conts_more _ _ _
      clear hcs2 hm2 HOf
      obtain ⟨m2p, m2z, m2c⟩ := m2
      dsimp only at *
      obtain ⟨a12, c12, rfl⟩ := own_slG g2
      obtain ⟨b12, e12, rfl⟩ := own_slG g3
      have hbn : (w12.alloc (.cells #[.int .i64 m2p, .int .i64 m2z, .slice b12 m2c.length e12] tManU)).heap[w12.heap.size]? = some (manO m2p m2z (.slice b12 m2c.length e12)) := heap_new _ _
      have nbn : Nw w12 (w12.alloc (.cells #[.int .i64 m2p, .int .i64 m2z, .slice b12 m2c.length e12] tManU)) := nw_alloc _ _
      have U13 := Lib.hid (U11.out.trans (g1.trans nbn))
      have U12 := Lib.hid (U11.out.trans g1)
      have HV12 := Lib.hid g2
      have HK12 := Lib.hid g3
      have HN12 := Lib.hid nbn
      have HBn := Lib.hid hbn
      have HZ12 := Lib.hid g1.size
      have HZ13 := Lib.hid (lt_of_block hbn)
      have HU11z := Lib.hid U11.out.size
      clear g1 g2 g3 hbn nbn U11 HV11
      go_wp2_with fail
      have hbm13 := Nw.keep U13.out HBm8.out
      have r2' := (man_cells hbm13).2.2
      have t2' := (man_cells HBn.out).2.2
      have hk13 := owns_upd' HK8.out U13.out (fun _ _ e => e)
      obtain ⟨_, _, e13, _, hc13⟩ := int_cells (Sl.of_owns hk13)
      rcases hc13 with hnil | ⟨bk, ok, e13b, _, _, hcell⟩
      · rw [hnil] at hk; simp at hk
      injection e13 with f1 f2 f3
      subst f1 f3
      subst e13b
      have ck0 := hcell k hk
      have nd13 := (nw_alloc (w12.alloc (.cells #[.int .i64 m2p, .int .i64 m2z, .slice b12 m2c.length e12] tManU)) (.cells #[.int .i64 mc[k]] 3)).drew
      have hsl1 := sl_lit (Nw.keep ((Upd.refl (fun _ => False) _).drew) (heap_new (w12.alloc (.cells #[.int .i64 m2p, .int .i64 m2z, .slice b12 m2c.length e12] tManU)) (.cells ([mc[k]].map intD).toArray 3))) (by simp)
      have hwi := within_c _ _ _ _ _ _ [mc[k]] m2c _ hsl1 ((Sl.of_owns HK12.out).nw (HN12.out.trans nd13)) (by simp) (by have := HC2.out.chunks; dsimp only at this; omega)
      rw [World.size_alloc] at hwi
      have HWi : Hid (Calls Tryd.prog 15 #[.slice (some ⟨w12.heap.size + 1, 0, none⟩) 1 1, .slice b12 m2c.length e12] ((w12.alloc (.cells #[.int .i64 m2p, .int .i64 m2z, .slice b12 m2c.length e12] tManU)).alloc (.cells #[.int .i64 mc[k]] 3)).drew fun e w' => e = .returned (.bool (wdB [mc[k]] m2c)) ∧ Nw ((w12.alloc (.cells #[.int .i64 m2p, .int .i64 m2z, .slice b12 m2c.length e12] tManU)).alloc (.cells #[.int .i64 mc[k]] 3)).drew w') := hwi
      have HKc := Lib.hid (fun (y : World) (u : Nw (w12.alloc (.cells #[.int .i64 m2p, .int .i64 m2z, .slice b12 m2c.length e12] tManU)) y) => (show y.cell? ⟨w2.heap.size, 2, none⟩ = some (.slice (some ⟨bk, ok, none⟩) mc.length ck) ∧ y.cell? ⟨bk, ok + k, none⟩ = some (.int .i64 mc[k]) ∧ y.cell? ⟨w12.heap.size, 2, none⟩ = some (.slice b12 m2c.length e12) from ⟨nw_cell u r2', nw_cell u ck0, nw_cell u t2'⟩))
      have HND := Lib.hid nd13
      have hk4 : (k : Int) < mc.length := by omega
      have hmm : max 0 (min (k : Int) ((mc.length : Int) - 1)) = k := by omega
      have hwr : IntKind.i64.wrap ((mc.length : Int) - 1) = (mc.length : Int) - 1 := by rw [IntKind.wrap_i64]; omega
      clear hcell hk13 hbm13 nd13 hsl1 hwi
      go_region_held3 (fun y => y.cell? ⟨w2.heap.size, 2, none⟩ = some (.slice (some ⟨bk, ok, none⟩) mc.length ck) ∧ y.cell? ⟨bk, ok + k, none⟩ = some (.int .i64 mc[k]) ∧ y.cell? ⟨w12.heap.size, 2, none⟩ = some (.slice b12 m2c.length e12)) (with_reducible first | exact HKc.out _ (Upd.refl _ _).drew | exact HKc.out _ HND.out | exact HKc.out _ (HND.out.trans uwi) | go_keep) (first | (go_at_call 15; (with_reducible refine HWi.out.mono ?_); rintro _ w14 ⟨rfl, uwi⟩))
      have U14 := Lib.hid (U13.out.trans (HND.out.trans uwi))
      have V14 := Lib.hid (HN12.out.trans (HND.out.trans uwi))
      have HV13 := Lib.hid (HND.out.trans uwi)
      clear hwr hmm HWi HKc r2' t2' ck0 uwi
      cases hwd : wdB [mc[k]] m2c with
      | true =>
        clear hwd
        go_wp2_with fail
        go_ret
        exact ⟨rfl, N8.out.trans U14.out⟩
      | false =>
        have HRes : Hid (∃ D3, Ft.fopen D2 0 cs2 ⟨m2p, m2z, m2c⟩ = (D3, none, 28)) := by
          obtain ⟨r, hr⟩ := HMo.out
          have hj := HY2.out
          obtain ⟨D3, h3⟩ := Ft.fopen_other HFt.out.up (by rw [hj]) (fun x hx => by rw [hj] at hx; rw [List.mem_singleton.1 hx]; have := Hodd.out.1; omega) HC2.out.right
          refine ⟨D3, ?_⟩
          have hno : mc[k] ∉ m2c := fun h => by
            unfold wdB at hwd
            rw [List.all_cons, decide_eq_true h] at hwd
            cases hwd
          have hf : Ft.fitsJ cs2 ⟨m2p, m2z, m2c⟩ ⟨0, j2.recs, false⟩ = false := by
            rw [hj]
            show (decide (Ft.prOf cs2 odd ∈ m2c) && true) = false
            have e : Ft.prOf cs2 odd = mc[k] := by
              rw [← HK1.out.2, hr]
              exact Ft.pr_more (by rw [← hr]; exact HC2.out.nodup) HK1.out.1
            rw [e, decide_eq_false hno]; rfl
          rw [h3, hf]; rfl
        clear hwd
        -- w14: the world; what the file opened anew gives: none, 28
        obtain ⟨D3, hres⟩ := HRes.out
        have hfo := fopen_t (m := ⟨m2p, m2z, m2c⟩) (cs := cs2) ((S8.out.forget).keep (F' := fun k => w11.heap.size ≤ k ∧ k < w12.heap.size) U14.out (fun k hk => Or.inr ⟨by have := hk.1; have := HU11z.out; omega, by have := hk.2; have := V14.out.size; omega⟩)) HGW.out (f := 0) (I64_s (by decide)) (owns_upd' HV12.out V14.out (fun _ _ e => e)) (fun k e => Or.inl (HV12.out.lt k e)) ((Sl.of_owns HK12.out).nw V14.out) (fun k h1 h2 => Or.inl ⟨h1, h2⟩) ⟨HC2.out.len, HC2.out.sm⟩ HC2.out.nodup (by have := HC2.out.chunks; dsimp only at this ⊢; omega)
        rw [hres] at hfo
        have HFo := Lib.hid hfo
        obtain ⟨t0, t1, t2⟩ := man_cells (Nw.keep HV13.out HBn.out)
        clear hfo hres
        go_wp2_with fail
        (with_reducible refine (HFo.out).mono ?_)
        rintro _ w15 ⟨pv15, rfl, m15, f15⟩
        rcases f15 with ⟨_, rfl, s15⟩ | ⟨_, _, e, _, _⟩
        · have NE := Lib.hid (HNm.out.trans s15.nw0)
          clear s15
          go_wp2_with fail
          go_ret
          exact ⟨rfl, NE.out⟩
        · cases e
  | false =>
    obtain ⟨y1, y2, y3, y4⟩ := HFt.out.no_ hin
    have e3 : (((Ft.gone cs ⟨mp, mz, mc⟩ j2).length : Int) == (mc.length : Int)) = true := by rw [beq_iff_eq]; dsimp only at y2; omega
    have HY2 := Lib.hid y1
    have HY3 := Lib.hid y3
    have HY4 := Lib.hid y4
    clear y1 y2 y3 y4 hin
    by_cases hi0 : i < 0
    · have d5 : decide (i < 0) = true := decide_eq_true hi0
      have hn3 := HY3.out (Or.inl hi0)
      subst hn3
      clear hi0
      cases hrw : Ft.rightM cs ⟨p, zz, l⟩ with
      | true =>
        have hRW := HRW.out _ hrw
        clear hrw HRW
        go_wp2_with fail
        -- true: whether the other manifest is right; 0: the error
        have hdr : Nw w8 w8.drew := (Upd.refl _ _).drew
        obtain ⟨q0, q1, q2⟩ := man_cells (Nw.keep hdr HB8.out)
        have hNew : Calls Tryd.prog 8 #[] w8.drew fun e y => ∃ db2, e = .returned (.pointer (some ⟨db2, 0, none⟩)) ∧ (y.cell? ⟨w.heap.size, 0, none⟩ = some (.int .i64 p) ∧ y.cell? ⟨w.heap.size, 1, none⟩ = some (.int .i64 zz) ∧ y.cell? ⟨w.heap.size, 2, none⟩ = some (.slice ac l.length cc)) ∧
            Hid (Calls Tryd.prog 9 #[.pointer (some ⟨db2, 0, none⟩), .int .i64 0, .slice av cs.length cv2, .agg #[.int .i64 p, .int .i64 zz, .slice ac l.length cc]] y fun e y2 => (∃ pp, e = .returned (.tuple #[.pointer pp, .int .i64 0]) ∧ pp.isSome = true) ∧ (y2.cell? ⟨w.heap.size, 0, none⟩ = some (.int .i64 p) ∧ y2.cell? ⟨w.heap.size, 1, none⟩ = some (.int .i64 zz) ∧ y2.cell? ⟨w.heap.size, 2, none⟩ = some (.slice ac l.length cc)) ∧ Hid (Nw w8 y2)) := by
          refine (new_t w8.drew (g.upd (N8.out.trans hdr))).mono ?_
          rintro e y ⟨db2, rfl, sy⟩
          have ny := hdr.trans sy.nw0
          refine ⟨db2, rfl, man_cells (Nw.keep ny HB8.out), ?_⟩
          have hvy := owns_upd' HV8.out ny (fun _ _ e => e)
          refine (fopen_t (m := ⟨p, zz, l⟩) (cs := cs) sy (g.upd (N8.out.trans hdr)) (f := 0) (I64_s (by decide)) hvy (fun k e => Or.inr ((HV8.out.lt k e).2)) (HCV8.out.nw ny) (fun k h1 h2 => Or.inr (by have := N8.out.size; show k < w8.heap.size; omega)) ⟨HC.out.len, HC.out.sm⟩ HC.out.nodup (by dsimp only; have := Hodd.out.2; omega)).mono ?_
          rintro e y2 ⟨pv, rfl, mv, fv⟩
          have ny2 : Nw w8 y2 := ny.trans' mv (fun k hk s => by have := s.2; have e9 : w8.drew.heap.size = w8.heap.size := rfl; omega)
          refine ⟨?_, man_cells (Nw.keep ny2 HB8.out), ny2⟩
          have hR := hRW.out
          rcases fv with ⟨e1, rfl, _⟩ | ⟨j, x, e1, rfl, _⟩
          · rw [hR.2.1]
            refine ⟨none, rfl, ?_⟩
            rw [← hR.2.2, e1]; rfl
          · rw [hR.2.1]
            refine ⟨_, rfl, ?_⟩
            rw [← hR.2.2, e1]; rfl
        have HNew := Lib.hid hNew
        clear hNew hdr
        go_region_held3 (fun y => y.cell? ⟨w.heap.size, 0, none⟩ = some (.int .i64 p) ∧ y.cell? ⟨w.heap.size, 1, none⟩ = some (.int .i64 zz) ∧ y.cell? ⟨w.heap.size, 2, none⟩ = some (.slice ac l.length cc)) (first | exact ⟨q0, q1, q2⟩ | assumption | go_keep) (first | (go_at_call 8; (with_reducible refine HNew.out.mono ?_); rintro _ w9 ⟨db2, rfl, cy9, HOp⟩) | (go_at_call 9; (with_reducible refine HOp.out.mono ?_); rintro _ w10 ⟨⟨pp, rfl, hpp⟩, cy10, U10⟩))
        obtain ⟨px, rfl⟩ := Option.isSome_iff_exists.1 hpp
        -- true: whether the other manifest is right
        have hv10 := owns_upd' HV8.out U10.out (fun _ _ e => e)
        have hrt := right_c _ _ _ _ _ cs p zz _ l w10 (g.upd (N8.out.trans U10.out)) (Sl.of_owns hv10) ⟨HC.out.len, HC.out.sm⟩ HC.out.nodup (HCV8.out.nw U10.out) (by have := Hodd.out.2; omega)
        rw [hRW.out.1] at hrt
        have HRt := Lib.hid hrt
        have HV10 := Lib.hid hv10
        obtain ⟨q0', q1', q2'⟩ := cy10
        clear HNew HOp cy9 hv10 hrt hRW q0 q1 q2
        go_wp2_with fail
        (with_reducible refine (HRt.out).mono ?_)
        rintro _ w11 ⟨rfl, u11⟩
        have U11 := Lib.hid (U10.out.trans u11)
        have HV11 := Lib.hid (owns_upd' HV10.out u11 (fun _ _ e => e))
        have hof := of_c _ _ cs digB 2 (by decide) w11 (g.upd (N8.out.trans U11.out)) HV11.out ⟨HC.out.len, HC.out.sm⟩ (by have := hcl20; show cs.length + 10 ≤ 85; omega) HC.out.nodup (by decide)
        have HOf : Hid (Calls Tryd.prog 14 #[.slice av cs.length cv2, .string ⟨#[48, 49, 50, 51, 52, 53, 54, 55, 56, 57]⟩, .int .i64 3] w11 _) := hof
        clear hof u11 HRt q0' q1' q2' U10 HV10
        go_wp2_with fail
        (with_reducible refine (HOf.out).mono ?_)
        rintro _ w12 ⟨v12, kv12, rfl, hd12⟩
        generalize hcs2 : Ck.conts cs digB 2 = cs2 at *
        generalize hm2 : Ck.man cs digB 2 = m2 at *
        obtain ⟨g1, g2, g3⟩ := hd12
        rw [hcs2] at g2
        rw [hm2] at g3
        have HC2 : Hid (Ft.Cut cs2 m2 digB) := by
          show Ft.Cut cs2 m2 digB
          rw [← hcs2, ← hm2]
          exact Ft.cut_ok HC.out.nodup (by have := hcl20; show cs.length + 10 ≤ 85; omega) HC.out.sm (by decide) (by decide)
        have HMo : Hid (∃ r, cs2 = cs ++ r) := by
          show ∃ r, cs2 = cs ++ r
          rw [← hcs2]
          exact Ft.conts_more _ _ _
        clear hcs2 hm2 HOf
        obtain ⟨m2p, m2z, m2c⟩ := m2
        dsimp only at *
        obtain ⟨a12, c12, rfl⟩ := own_slG g2
        obtain ⟨b12, e12, rfl⟩ := own_slG g3
        have hbn : (w12.alloc (.cells #[.int .i64 m2p, .int .i64 m2z, .slice b12 m2c.length e12] tManU)).heap[w12.heap.size]? = some (manO m2p m2z (.slice b12 m2c.length e12)) := heap_new _ _
        have nbn : Nw w12 (w12.alloc (.cells #[.int .i64 m2p, .int .i64 m2z, .slice b12 m2c.length e12] tManU)) := nw_alloc _ _
        have U13 := Lib.hid (U11.out.trans (g1.trans nbn))
        have U12 := Lib.hid (U11.out.trans g1)
        have HV12 := Lib.hid g2
        have HK12 := Lib.hid g3
        have HN12 := Lib.hid nbn
        have HBn := Lib.hid hbn
        have HZ12 := Lib.hid g1.size
        have HZ13 := Lib.hid (lt_of_block hbn)
        have HU11z := Lib.hid U11.out.size
        clear g1 g2 g3 hbn nbn U11 HV11
        go_wp2_with fail
        refine wp_region_nw (by kernel_rfl) (by kernel_rfl) ?_
        repeat (go_big_quiet_step ((fail)))
        refine wpQuiet_nil ?_
        intro w14 u14
        replace u14 := later_out u14
        have U14 := Lib.hid (U13.out.trans u14)
        have V14 := Lib.hid (HN12.out.trans u14)
        have HV13 := Lib.hid u14
        clear u14
        have HRes : Hid (∃ D3, Ft.fopen D2 0 cs2 ⟨m2p, m2z, m2c⟩ = (D3, some ⟨0, [], false⟩, 0)) := by
          have hj := HY2.out
          obtain ⟨D3, h3⟩ := Ft.fopen_other HFt.out.up (by rw [hj]) (fun x hx => by rw [hj] at hx; cases hx) HC2.out.right
          refine ⟨D3, ?_⟩
          rw [h3, hj]; rfl
        -- w14: the world; what the file opened anew gives: none, 28
        obtain ⟨D3, hres⟩ := HRes.out
        have hfo := fopen_t (m := ⟨m2p, m2z, m2c⟩) (cs := cs2) ((S8.out.forget).keep (F' := fun k => w11.heap.size ≤ k ∧ k < w12.heap.size) U14.out (fun k hk => Or.inr ⟨by have := hk.1; have := HU11z.out; omega, by have := hk.2; have := V14.out.size; omega⟩)) HGW.out (f := 0) (I64_s (by decide)) (owns_upd' HV12.out V14.out (fun _ _ e => e)) (fun k e => Or.inl (HV12.out.lt k e)) ((Sl.of_owns HK12.out).nw V14.out) (fun k h1 h2 => Or.inl ⟨h1, h2⟩) ⟨HC2.out.len, HC2.out.sm⟩ HC2.out.nodup (by have := HC2.out.chunks; dsimp only at this ⊢; omega)
        rw [hres] at hfo
        have HFo := Lib.hid hfo
        obtain ⟨t0, t1, t2⟩ := man_cells (Nw.keep HV13.out HBn.out)
        clear hfo hres
        go_wp2_with fail
        (with_reducible refine (HFo.out).mono ?_)
        rintro _ w15 ⟨pv15, rfl, m15, f15⟩
        rcases f15 with ⟨e, _, _⟩ | ⟨j15, x15, e, rfl, s15⟩
        · cases e
        · have NE := Lib.hid (HNm.out.trans s15.nw0)
          clear s15
          go_wp2_with fail
          go_ret
          exact ⟨rfl, NE.out⟩
      | false =>
        have hRW := HRW.out _ hrw
        clear hrw HRW
        go_wp2_with fail
        -- false: whether the other manifest is right; 1: the error
        have hdr : Nw w8 w8.drew := (Upd.refl _ _).drew
        obtain ⟨q0, q1, q2⟩ := man_cells (Nw.keep hdr HB8.out)
        have hNew : Calls Tryd.prog 8 #[] w8.drew fun e y => ∃ db2, e = .returned (.pointer (some ⟨db2, 0, none⟩)) ∧ (y.cell? ⟨w.heap.size, 0, none⟩ = some (.int .i64 p) ∧ y.cell? ⟨w.heap.size, 1, none⟩ = some (.int .i64 zz) ∧ y.cell? ⟨w.heap.size, 2, none⟩ = some (.slice ac l.length cc)) ∧
            Hid (Calls Tryd.prog 9 #[.pointer (some ⟨db2, 0, none⟩), .int .i64 0, .slice av cs.length cv2, .agg #[.int .i64 p, .int .i64 zz, .slice ac l.length cc]] y fun e y2 => (∃ pp, e = .returned (.tuple #[.pointer pp, .int .i64 1]) ∧ pp.isSome = false) ∧ (y2.cell? ⟨w.heap.size, 0, none⟩ = some (.int .i64 p) ∧ y2.cell? ⟨w.heap.size, 1, none⟩ = some (.int .i64 zz) ∧ y2.cell? ⟨w.heap.size, 2, none⟩ = some (.slice ac l.length cc)) ∧ Hid (Nw w8 y2)) := by
          refine (new_t w8.drew (g.upd (N8.out.trans hdr))).mono ?_
          rintro e y ⟨db2, rfl, sy⟩
          have ny := hdr.trans sy.nw0
          refine ⟨db2, rfl, man_cells (Nw.keep ny HB8.out), ?_⟩
          have hvy := owns_upd' HV8.out ny (fun _ _ e => e)
          refine (fopen_t (m := ⟨p, zz, l⟩) (cs := cs) sy (g.upd (N8.out.trans hdr)) (f := 0) (I64_s (by decide)) hvy (fun k e => Or.inr ((HV8.out.lt k e).2)) (HCV8.out.nw ny) (fun k h1 h2 => Or.inr (by have := N8.out.size; show k < w8.heap.size; omega)) ⟨HC.out.len, HC.out.sm⟩ HC.out.nodup (by dsimp only; have := Hodd.out.2; omega)).mono ?_
          rintro e y2 ⟨pv, rfl, mv, fv⟩
          have ny2 : Nw w8 y2 := ny.trans' mv (fun k hk s => by have := s.2; have e9 : w8.drew.heap.size = w8.heap.size := rfl; omega)
          refine ⟨?_, man_cells (Nw.keep ny2 HB8.out), ny2⟩
          have hR := hRW.out
          rcases fv with ⟨e1, rfl, _⟩ | ⟨j, x, e1, rfl, _⟩
          · rw [hR.2.1]
            refine ⟨none, rfl, ?_⟩
            rw [← hR.2.2, e1]; rfl
          · rw [hR.2.1]
            refine ⟨_, rfl, ?_⟩
            rw [← hR.2.2, e1]; rfl
        have HNew := Lib.hid hNew
        clear hNew hdr
        go_region_held3 (fun y => y.cell? ⟨w.heap.size, 0, none⟩ = some (.int .i64 p) ∧ y.cell? ⟨w.heap.size, 1, none⟩ = some (.int .i64 zz) ∧ y.cell? ⟨w.heap.size, 2, none⟩ = some (.slice ac l.length cc)) (first | exact ⟨q0, q1, q2⟩ | assumption | go_keep) (first | (go_at_call 8; (with_reducible refine HNew.out.mono ?_); rintro _ w9 ⟨db2, rfl, cy9, HOp⟩) | (go_at_call 9; (with_reducible refine HOp.out.mono ?_); rintro _ w10 ⟨⟨pp, rfl, hpp⟩, cy10, U10⟩))
        obtain rfl : pp = none := by simpa using hpp
        -- false: whether the other manifest is right
        have hv10 := owns_upd' HV8.out U10.out (fun _ _ e => e)
        have hrt := right_c _ _ _ _ _ cs p zz _ l w10 (g.upd (N8.out.trans U10.out)) (Sl.of_owns hv10) ⟨HC.out.len, HC.out.sm⟩ HC.out.nodup (HCV8.out.nw U10.out) (by have := Hodd.out.2; omega)
        rw [hRW.out.1] at hrt
        have HRt := Lib.hid hrt
        have HV10 := Lib.hid hv10
        obtain ⟨q0', q1', q2'⟩ := cy10
        clear HNew HOp cy9 hv10 hrt hRW q0 q1 q2
        go_wp2_with fail
        (with_reducible refine (HRt.out).mono ?_)
        rintro _ w11 ⟨rfl, u11⟩
        have U11 := Lib.hid (U10.out.trans u11)
        have HV11 := Lib.hid (owns_upd' HV10.out u11 (fun _ _ e => e))
        have hof := of_c _ _ cs digB 2 (by decide) w11 (g.upd (N8.out.trans U11.out)) HV11.out ⟨HC.out.len, HC.out.sm⟩ (by have := hcl20; show cs.length + 10 ≤ 85; omega) HC.out.nodup (by decide)
        have HOf : Hid (Calls Tryd.prog 14 #[.slice av cs.length cv2, .string ⟨#[48, 49, 50, 51, 52, 53, 54, 55, 56, 57]⟩, .int .i64 3] w11 _) := hof
        clear hof u11 HRt q0' q1' q2' U10 HV10
        go_wp2_with fail
        (with_reducible refine (HOf.out).mono ?_)
        rintro _ w12 ⟨v12, kv12, rfl, hd12⟩
        generalize hcs2 : Ck.conts cs digB 2 = cs2 at *
        generalize hm2 : Ck.man cs digB 2 = m2 at *
        obtain ⟨g1, g2, g3⟩ := hd12
        rw [hcs2] at g2
        rw [hm2] at g3
        have HC2 : Hid (Ft.Cut cs2 m2 digB) := by
          show Ft.Cut cs2 m2 digB
          rw [← hcs2, ← hm2]
          exact Ft.cut_ok HC.out.nodup (by have := hcl20; show cs.length + 10 ≤ 85; omega) HC.out.sm (by decide) (by decide)
        have HMo : Hid (∃ r, cs2 = cs ++ r) := by
          show ∃ r, cs2 = cs ++ r
          rw [← hcs2]
          exact Ft.conts_more _ _ _
        clear hcs2 hm2 HOf
        obtain ⟨m2p, m2z, m2c⟩ := m2
        dsimp only at *
        obtain ⟨a12, c12, rfl⟩ := own_slG g2
        obtain ⟨b12, e12, rfl⟩ := own_slG g3
        have hbn : (w12.alloc (.cells #[.int .i64 m2p, .int .i64 m2z, .slice b12 m2c.length e12] tManU)).heap[w12.heap.size]? = some (manO m2p m2z (.slice b12 m2c.length e12)) := heap_new _ _
        have nbn : Nw w12 (w12.alloc (.cells #[.int .i64 m2p, .int .i64 m2z, .slice b12 m2c.length e12] tManU)) := nw_alloc _ _
        have U13 := Lib.hid (U11.out.trans (g1.trans nbn))
        have U12 := Lib.hid (U11.out.trans g1)
        have HV12 := Lib.hid g2
        have HK12 := Lib.hid g3
        have HN12 := Lib.hid nbn
        have HBn := Lib.hid hbn
        have HZ12 := Lib.hid g1.size
        have HZ13 := Lib.hid (lt_of_block hbn)
        have HU11z := Lib.hid U11.out.size
        clear g1 g2 g3 hbn nbn U11 HV11
        go_wp2_with fail
        refine wp_region_nw (by kernel_rfl) (by kernel_rfl) ?_
        repeat (go_big_quiet_step ((fail)))
        refine wpQuiet_nil ?_
        intro w14 u14
        replace u14 := later_out u14
        have U14 := Lib.hid (U13.out.trans u14)
        have V14 := Lib.hid (HN12.out.trans u14)
        have HV13 := Lib.hid u14
        clear u14
        have HRes : Hid (∃ D3, Ft.fopen D2 0 cs2 ⟨m2p, m2z, m2c⟩ = (D3, some ⟨0, [], false⟩, 0)) := by
          have hj := HY2.out
          obtain ⟨D3, h3⟩ := Ft.fopen_other HFt.out.up (by rw [hj]) (fun x hx => by rw [hj] at hx; cases hx) HC2.out.right
          refine ⟨D3, ?_⟩
          rw [h3, hj]; rfl
        -- w14: the world; what the file opened anew gives: none, 28
        obtain ⟨D3, hres⟩ := HRes.out
        have hfo := fopen_t (m := ⟨m2p, m2z, m2c⟩) (cs := cs2) ((S8.out.forget).keep (F' := fun k => w11.heap.size ≤ k ∧ k < w12.heap.size) U14.out (fun k hk => Or.inr ⟨by have := hk.1; have := HU11z.out; omega, by have := hk.2; have := V14.out.size; omega⟩)) HGW.out (f := 0) (I64_s (by decide)) (owns_upd' HV12.out V14.out (fun _ _ e => e)) (fun k e => Or.inl (HV12.out.lt k e)) ((Sl.of_owns HK12.out).nw V14.out) (fun k h1 h2 => Or.inl ⟨h1, h2⟩) ⟨HC2.out.len, HC2.out.sm⟩ HC2.out.nodup (by have := HC2.out.chunks; dsimp only at this ⊢; omega)
        rw [hres] at hfo
        have HFo := Lib.hid hfo
        obtain ⟨t0, t1, t2⟩ := man_cells (Nw.keep HV13.out HBn.out)
        clear hfo hres
        go_wp2_with fail
        (with_reducible refine (HFo.out).mono ?_)
        rintro _ w15 ⟨pv15, rfl, m15, f15⟩
        rcases f15 with ⟨e, _, _⟩ | ⟨j15, x15, e, rfl, s15⟩
        · cases e
        · have NE := Lib.hid (HNm.out.trans s15.nw0)
          clear s15
          go_wp2_with fail
          go_ret
          exact ⟨rfl, NE.out⟩
    · have d5 : decide (i < 0) = false := decide_eq_false hi0
      by_cases hi1 : (mc.length : Int) ≤ i
      · have d6 : decide ((mc.length : Int) ≤ i) = true := decide_eq_true hi1
        have hn3 := HY3.out (Or.inr hi1)
        subst hn3
        clear hi0 hi1
        cases hrw : Ft.rightM cs ⟨p, zz, l⟩ with
        | true =>
          have hRW := HRW.out _ hrw
          clear hrw HRW
          go_wp2_with fail
          -- true: whether the other manifest is right; 0: the error
          have hdr : Nw w8 w8.drew := (Upd.refl _ _).drew
          obtain ⟨q0, q1, q2⟩ := man_cells (Nw.keep hdr HB8.out)
          have hNew : Calls Tryd.prog 8 #[] w8.drew fun e y => ∃ db2, e = .returned (.pointer (some ⟨db2, 0, none⟩)) ∧ (y.cell? ⟨w.heap.size, 0, none⟩ = some (.int .i64 p) ∧ y.cell? ⟨w.heap.size, 1, none⟩ = some (.int .i64 zz) ∧ y.cell? ⟨w.heap.size, 2, none⟩ = some (.slice ac l.length cc)) ∧
              Hid (Calls Tryd.prog 9 #[.pointer (some ⟨db2, 0, none⟩), .int .i64 0, .slice av cs.length cv2, .agg #[.int .i64 p, .int .i64 zz, .slice ac l.length cc]] y fun e y2 => (∃ pp, e = .returned (.tuple #[.pointer pp, .int .i64 0]) ∧ pp.isSome = true) ∧ (y2.cell? ⟨w.heap.size, 0, none⟩ = some (.int .i64 p) ∧ y2.cell? ⟨w.heap.size, 1, none⟩ = some (.int .i64 zz) ∧ y2.cell? ⟨w.heap.size, 2, none⟩ = some (.slice ac l.length cc)) ∧ Hid (Nw w8 y2)) := by
            refine (new_t w8.drew (g.upd (N8.out.trans hdr))).mono ?_
            rintro e y ⟨db2, rfl, sy⟩
            have ny := hdr.trans sy.nw0
            refine ⟨db2, rfl, man_cells (Nw.keep ny HB8.out), ?_⟩
            have hvy := owns_upd' HV8.out ny (fun _ _ e => e)
            refine (fopen_t (m := ⟨p, zz, l⟩) (cs := cs) sy (g.upd (N8.out.trans hdr)) (f := 0) (I64_s (by decide)) hvy (fun k e => Or.inr ((HV8.out.lt k e).2)) (HCV8.out.nw ny) (fun k h1 h2 => Or.inr (by have := N8.out.size; show k < w8.heap.size; omega)) ⟨HC.out.len, HC.out.sm⟩ HC.out.nodup (by dsimp only; have := Hodd.out.2; omega)).mono ?_
            rintro e y2 ⟨pv, rfl, mv, fv⟩
            have ny2 : Nw w8 y2 := ny.trans' mv (fun k hk s => by have := s.2; have e9 : w8.drew.heap.size = w8.heap.size := rfl; omega)
            refine ⟨?_, man_cells (Nw.keep ny2 HB8.out), ny2⟩
            have hR := hRW.out
            rcases fv with ⟨e1, rfl, _⟩ | ⟨j, x, e1, rfl, _⟩
            · rw [hR.2.1]
              refine ⟨none, rfl, ?_⟩
              rw [← hR.2.2, e1]; rfl
            · rw [hR.2.1]
              refine ⟨_, rfl, ?_⟩
              rw [← hR.2.2, e1]; rfl
          have HNew := Lib.hid hNew
          clear hNew hdr
          go_region_held3 (fun y => y.cell? ⟨w.heap.size, 0, none⟩ = some (.int .i64 p) ∧ y.cell? ⟨w.heap.size, 1, none⟩ = some (.int .i64 zz) ∧ y.cell? ⟨w.heap.size, 2, none⟩ = some (.slice ac l.length cc)) (first | exact ⟨q0, q1, q2⟩ | assumption | go_keep) (first | (go_at_call 8; (with_reducible refine HNew.out.mono ?_); rintro _ w9 ⟨db2, rfl, cy9, HOp⟩) | (go_at_call 9; (with_reducible refine HOp.out.mono ?_); rintro _ w10 ⟨⟨pp, rfl, hpp⟩, cy10, U10⟩))
          obtain ⟨px, rfl⟩ := Option.isSome_iff_exists.1 hpp
          -- true: whether the other manifest is right
          have hv10 := owns_upd' HV8.out U10.out (fun _ _ e => e)
          have hrt := right_c _ _ _ _ _ cs p zz _ l w10 (g.upd (N8.out.trans U10.out)) (Sl.of_owns hv10) ⟨HC.out.len, HC.out.sm⟩ HC.out.nodup (HCV8.out.nw U10.out) (by have := Hodd.out.2; omega)
          rw [hRW.out.1] at hrt
          have HRt := Lib.hid hrt
          have HV10 := Lib.hid hv10
          obtain ⟨q0', q1', q2'⟩ := cy10
          clear HNew HOp cy9 hv10 hrt hRW q0 q1 q2
          go_wp2_with fail
          (with_reducible refine (HRt.out).mono ?_)
          rintro _ w11 ⟨rfl, u11⟩
          have U11 := Lib.hid (U10.out.trans u11)
          have HV11 := Lib.hid (owns_upd' HV10.out u11 (fun _ _ e => e))
          have hof := of_c _ _ cs digB 2 (by decide) w11 (g.upd (N8.out.trans U11.out)) HV11.out ⟨HC.out.len, HC.out.sm⟩ (by have := hcl20; show cs.length + 10 ≤ 85; omega) HC.out.nodup (by decide)
          have HOf : Hid (Calls Tryd.prog 14 #[.slice av cs.length cv2, .string ⟨#[48, 49, 50, 51, 52, 53, 54, 55, 56, 57]⟩, .int .i64 3] w11 _) := hof
          clear hof u11 HRt q0' q1' q2' U10 HV10
          go_wp2_with fail
          (with_reducible refine (HOf.out).mono ?_)
          rintro _ w12 ⟨v12, kv12, rfl, hd12⟩
          generalize hcs2 : Ck.conts cs digB 2 = cs2 at *
          generalize hm2 : Ck.man cs digB 2 = m2 at *
          obtain ⟨g1, g2, g3⟩ := hd12
          rw [hcs2] at g2
          rw [hm2] at g3
          have HC2 : Hid (Ft.Cut cs2 m2 digB) := by
            show Ft.Cut cs2 m2 digB
            rw [← hcs2, ← hm2]
            exact Ft.cut_ok HC.out.nodup (by have := hcl20; show cs.length + 10 ≤ 85; omega) HC.out.sm (by decide) (by decide)
          have HMo : Hid (∃ r, cs2 = cs ++ r) := by
            show ∃ r, cs2 = cs ++ r
            rw [← hcs2]
            exact Ft.conts_more _ _ _
          clear hcs2 hm2 HOf
          obtain ⟨m2p, m2z, m2c⟩ := m2
          dsimp only at *
          obtain ⟨a12, c12, rfl⟩ := own_slG g2
          obtain ⟨b12, e12, rfl⟩ := own_slG g3
          have hbn : (w12.alloc (.cells #[.int .i64 m2p, .int .i64 m2z, .slice b12 m2c.length e12] tManU)).heap[w12.heap.size]? = some (manO m2p m2z (.slice b12 m2c.length e12)) := heap_new _ _
          have nbn : Nw w12 (w12.alloc (.cells #[.int .i64 m2p, .int .i64 m2z, .slice b12 m2c.length e12] tManU)) := nw_alloc _ _
          have U13 := Lib.hid (U11.out.trans (g1.trans nbn))
          have U12 := Lib.hid (U11.out.trans g1)
          have HV12 := Lib.hid g2
          have HK12 := Lib.hid g3
          have HN12 := Lib.hid nbn
          have HBn := Lib.hid hbn
          have HZ12 := Lib.hid g1.size
          have HZ13 := Lib.hid (lt_of_block hbn)
          have HU11z := Lib.hid U11.out.size
          clear g1 g2 g3 hbn nbn U11 HV11
          go_wp2_with fail
          refine wp_region_nw (by kernel_rfl) (by kernel_rfl) ?_
          repeat (go_big_quiet_step ((fail)))
          refine wpQuiet_nil ?_
          intro w14 u14
          replace u14 := later_out u14
          have U14 := Lib.hid (U13.out.trans u14)
          have V14 := Lib.hid (HN12.out.trans u14)
          have HV13 := Lib.hid u14
          clear u14
          have HRes : Hid (∃ D3, Ft.fopen D2 0 cs2 ⟨m2p, m2z, m2c⟩ = (D3, some ⟨0, [], false⟩, 0)) := by
            have hj := HY2.out
            obtain ⟨D3, h3⟩ := Ft.fopen_other HFt.out.up (by rw [hj]) (fun x hx => by rw [hj] at hx; cases hx) HC2.out.right
            refine ⟨D3, ?_⟩
            rw [h3, hj]; rfl
          -- w14: the world; what the file opened anew gives: none, 28
          obtain ⟨D3, hres⟩ := HRes.out
          have hfo := fopen_t (m := ⟨m2p, m2z, m2c⟩) (cs := cs2) ((S8.out.forget).keep (F' := fun k => w11.heap.size ≤ k ∧ k < w12.heap.size) U14.out (fun k hk => Or.inr ⟨by have := hk.1; have := HU11z.out; omega, by have := hk.2; have := V14.out.size; omega⟩)) HGW.out (f := 0) (I64_s (by decide)) (owns_upd' HV12.out V14.out (fun _ _ e => e)) (fun k e => Or.inl (HV12.out.lt k e)) ((Sl.of_owns HK12.out).nw V14.out) (fun k h1 h2 => Or.inl ⟨h1, h2⟩) ⟨HC2.out.len, HC2.out.sm⟩ HC2.out.nodup (by have := HC2.out.chunks; dsimp only at this ⊢; omega)
          rw [hres] at hfo
          have HFo := Lib.hid hfo
          obtain ⟨t0, t1, t2⟩ := man_cells (Nw.keep HV13.out HBn.out)
          clear hfo hres
          go_wp2_with fail
          (with_reducible refine (HFo.out).mono ?_)
          rintro _ w15 ⟨pv15, rfl, m15, f15⟩
          rcases f15 with ⟨e, _, _⟩ | ⟨j15, x15, e, rfl, s15⟩
          · cases e
          · have NE := Lib.hid (HNm.out.trans s15.nw0)
            clear s15
            go_wp2_with fail
            go_ret
            exact ⟨rfl, NE.out⟩
        | false =>
          have hRW := HRW.out _ hrw
          clear hrw HRW
          go_wp2_with fail
          -- false: whether the other manifest is right; 1: the error
          have hdr : Nw w8 w8.drew := (Upd.refl _ _).drew
          obtain ⟨q0, q1, q2⟩ := man_cells (Nw.keep hdr HB8.out)
          have hNew : Calls Tryd.prog 8 #[] w8.drew fun e y => ∃ db2, e = .returned (.pointer (some ⟨db2, 0, none⟩)) ∧ (y.cell? ⟨w.heap.size, 0, none⟩ = some (.int .i64 p) ∧ y.cell? ⟨w.heap.size, 1, none⟩ = some (.int .i64 zz) ∧ y.cell? ⟨w.heap.size, 2, none⟩ = some (.slice ac l.length cc)) ∧
              Hid (Calls Tryd.prog 9 #[.pointer (some ⟨db2, 0, none⟩), .int .i64 0, .slice av cs.length cv2, .agg #[.int .i64 p, .int .i64 zz, .slice ac l.length cc]] y fun e y2 => (∃ pp, e = .returned (.tuple #[.pointer pp, .int .i64 1]) ∧ pp.isSome = false) ∧ (y2.cell? ⟨w.heap.size, 0, none⟩ = some (.int .i64 p) ∧ y2.cell? ⟨w.heap.size, 1, none⟩ = some (.int .i64 zz) ∧ y2.cell? ⟨w.heap.size, 2, none⟩ = some (.slice ac l.length cc)) ∧ Hid (Nw w8 y2)) := by
            refine (new_t w8.drew (g.upd (N8.out.trans hdr))).mono ?_
            rintro e y ⟨db2, rfl, sy⟩
            have ny := hdr.trans sy.nw0
            refine ⟨db2, rfl, man_cells (Nw.keep ny HB8.out), ?_⟩
            have hvy := owns_upd' HV8.out ny (fun _ _ e => e)
            refine (fopen_t (m := ⟨p, zz, l⟩) (cs := cs) sy (g.upd (N8.out.trans hdr)) (f := 0) (I64_s (by decide)) hvy (fun k e => Or.inr ((HV8.out.lt k e).2)) (HCV8.out.nw ny) (fun k h1 h2 => Or.inr (by have := N8.out.size; show k < w8.heap.size; omega)) ⟨HC.out.len, HC.out.sm⟩ HC.out.nodup (by dsimp only; have := Hodd.out.2; omega)).mono ?_
            rintro e y2 ⟨pv, rfl, mv, fv⟩
            have ny2 : Nw w8 y2 := ny.trans' mv (fun k hk s => by have := s.2; have e9 : w8.drew.heap.size = w8.heap.size := rfl; omega)
            refine ⟨?_, man_cells (Nw.keep ny2 HB8.out), ny2⟩
            have hR := hRW.out
            rcases fv with ⟨e1, rfl, _⟩ | ⟨j, x, e1, rfl, _⟩
            · rw [hR.2.1]
              refine ⟨none, rfl, ?_⟩
              rw [← hR.2.2, e1]; rfl
            · rw [hR.2.1]
              refine ⟨_, rfl, ?_⟩
              rw [← hR.2.2, e1]; rfl
          have HNew := Lib.hid hNew
          clear hNew hdr
          go_region_held3 (fun y => y.cell? ⟨w.heap.size, 0, none⟩ = some (.int .i64 p) ∧ y.cell? ⟨w.heap.size, 1, none⟩ = some (.int .i64 zz) ∧ y.cell? ⟨w.heap.size, 2, none⟩ = some (.slice ac l.length cc)) (first | exact ⟨q0, q1, q2⟩ | assumption | go_keep) (first | (go_at_call 8; (with_reducible refine HNew.out.mono ?_); rintro _ w9 ⟨db2, rfl, cy9, HOp⟩) | (go_at_call 9; (with_reducible refine HOp.out.mono ?_); rintro _ w10 ⟨⟨pp, rfl, hpp⟩, cy10, U10⟩))
          obtain rfl : pp = none := by simpa using hpp
          -- false: whether the other manifest is right
          have hv10 := owns_upd' HV8.out U10.out (fun _ _ e => e)
          have hrt := right_c _ _ _ _ _ cs p zz _ l w10 (g.upd (N8.out.trans U10.out)) (Sl.of_owns hv10) ⟨HC.out.len, HC.out.sm⟩ HC.out.nodup (HCV8.out.nw U10.out) (by have := Hodd.out.2; omega)
          rw [hRW.out.1] at hrt
          have HRt := Lib.hid hrt
          have HV10 := Lib.hid hv10
          obtain ⟨q0', q1', q2'⟩ := cy10
          clear HNew HOp cy9 hv10 hrt hRW q0 q1 q2
          go_wp2_with fail
          (with_reducible refine (HRt.out).mono ?_)
          rintro _ w11 ⟨rfl, u11⟩
          have U11 := Lib.hid (U10.out.trans u11)
          have HV11 := Lib.hid (owns_upd' HV10.out u11 (fun _ _ e => e))
          have hof := of_c _ _ cs digB 2 (by decide) w11 (g.upd (N8.out.trans U11.out)) HV11.out ⟨HC.out.len, HC.out.sm⟩ (by have := hcl20; show cs.length + 10 ≤ 85; omega) HC.out.nodup (by decide)
          have HOf : Hid (Calls Tryd.prog 14 #[.slice av cs.length cv2, .string ⟨#[48, 49, 50, 51, 52, 53, 54, 55, 56, 57]⟩, .int .i64 3] w11 _) := hof
          clear hof u11 HRt q0' q1' q2' U10 HV10
          go_wp2_with fail
          (with_reducible refine (HOf.out).mono ?_)
          rintro _ w12 ⟨v12, kv12, rfl, hd12⟩
          generalize hcs2 : Ck.conts cs digB 2 = cs2 at *
          generalize hm2 : Ck.man cs digB 2 = m2 at *
          obtain ⟨g1, g2, g3⟩ := hd12
          rw [hcs2] at g2
          rw [hm2] at g3
          have HC2 : Hid (Ft.Cut cs2 m2 digB) := by
            show Ft.Cut cs2 m2 digB
            rw [← hcs2, ← hm2]
            exact Ft.cut_ok HC.out.nodup (by have := hcl20; show cs.length + 10 ≤ 85; omega) HC.out.sm (by decide) (by decide)
          have HMo : Hid (∃ r, cs2 = cs ++ r) := by
            show ∃ r, cs2 = cs ++ r
            rw [← hcs2]
            exact Ft.conts_more _ _ _
          clear hcs2 hm2 HOf
          obtain ⟨m2p, m2z, m2c⟩ := m2
          dsimp only at *
          obtain ⟨a12, c12, rfl⟩ := own_slG g2
          obtain ⟨b12, e12, rfl⟩ := own_slG g3
          have hbn : (w12.alloc (.cells #[.int .i64 m2p, .int .i64 m2z, .slice b12 m2c.length e12] tManU)).heap[w12.heap.size]? = some (manO m2p m2z (.slice b12 m2c.length e12)) := heap_new _ _
          have nbn : Nw w12 (w12.alloc (.cells #[.int .i64 m2p, .int .i64 m2z, .slice b12 m2c.length e12] tManU)) := nw_alloc _ _
          have U13 := Lib.hid (U11.out.trans (g1.trans nbn))
          have U12 := Lib.hid (U11.out.trans g1)
          have HV12 := Lib.hid g2
          have HK12 := Lib.hid g3
          have HN12 := Lib.hid nbn
          have HBn := Lib.hid hbn
          have HZ12 := Lib.hid g1.size
          have HZ13 := Lib.hid (lt_of_block hbn)
          have HU11z := Lib.hid U11.out.size
          clear g1 g2 g3 hbn nbn U11 HV11
          go_wp2_with fail
          refine wp_region_nw (by kernel_rfl) (by kernel_rfl) ?_
          repeat (go_big_quiet_step ((fail)))
          refine wpQuiet_nil ?_
          intro w14 u14
          replace u14 := later_out u14
          have U14 := Lib.hid (U13.out.trans u14)
          have V14 := Lib.hid (HN12.out.trans u14)
          have HV13 := Lib.hid u14
          clear u14
          have HRes : Hid (∃ D3, Ft.fopen D2 0 cs2 ⟨m2p, m2z, m2c⟩ = (D3, some ⟨0, [], false⟩, 0)) := by
            have hj := HY2.out
            obtain ⟨D3, h3⟩ := Ft.fopen_other HFt.out.up (by rw [hj]) (fun x hx => by rw [hj] at hx; cases hx) HC2.out.right
            refine ⟨D3, ?_⟩
            rw [h3, hj]; rfl
          -- w14: the world; what the file opened anew gives: none, 28
          obtain ⟨D3, hres⟩ := HRes.out
          have hfo := fopen_t (m := ⟨m2p, m2z, m2c⟩) (cs := cs2) ((S8.out.forget).keep (F' := fun k => w11.heap.size ≤ k ∧ k < w12.heap.size) U14.out (fun k hk => Or.inr ⟨by have := hk.1; have := HU11z.out; omega, by have := hk.2; have := V14.out.size; omega⟩)) HGW.out (f := 0) (I64_s (by decide)) (owns_upd' HV12.out V14.out (fun _ _ e => e)) (fun k e => Or.inl (HV12.out.lt k e)) ((Sl.of_owns HK12.out).nw V14.out) (fun k h1 h2 => Or.inl ⟨h1, h2⟩) ⟨HC2.out.len, HC2.out.sm⟩ HC2.out.nodup (by have := HC2.out.chunks; dsimp only at this ⊢; omega)
          rw [hres] at hfo
          have HFo := Lib.hid hfo
          obtain ⟨t0, t1, t2⟩ := man_cells (Nw.keep HV13.out HBn.out)
          clear hfo hres
          go_wp2_with fail
          (with_reducible refine (HFo.out).mono ?_)
          rintro _ w15 ⟨pv15, rfl, m15, f15⟩
          rcases f15 with ⟨e, _, _⟩ | ⟨j15, x15, e, rfl, s15⟩
          · cases e
          · have NE := Lib.hid (HNm.out.trans s15.nw0)
            clear s15
            go_wp2_with fail
            go_ret
            exact ⟨rfl, NE.out⟩
      · have d6 : decide ((mc.length : Int) ≤ i) = false := decide_eq_false hi1
        have hn3 := HY4.out (fun h => h.elim hi0 hi1)
        subst hn3
        clear hi0 hi1
        cases hrw : Ft.rightM cs ⟨p, zz, l⟩ with
        | true =>
          have hRW := HRW.out _ hrw
          clear hrw HRW
          go_wp2_with fail
          -- true: whether the other manifest is right; 0: the error
          have hdr : Nw w8 w8.drew := (Upd.refl _ _).drew
          obtain ⟨q0, q1, q2⟩ := man_cells (Nw.keep hdr HB8.out)
          have hNew : Calls Tryd.prog 8 #[] w8.drew fun e y => ∃ db2, e = .returned (.pointer (some ⟨db2, 0, none⟩)) ∧ (y.cell? ⟨w.heap.size, 0, none⟩ = some (.int .i64 p) ∧ y.cell? ⟨w.heap.size, 1, none⟩ = some (.int .i64 zz) ∧ y.cell? ⟨w.heap.size, 2, none⟩ = some (.slice ac l.length cc)) ∧
              Hid (Calls Tryd.prog 9 #[.pointer (some ⟨db2, 0, none⟩), .int .i64 0, .slice av cs.length cv2, .agg #[.int .i64 p, .int .i64 zz, .slice ac l.length cc]] y fun e y2 => (∃ pp, e = .returned (.tuple #[.pointer pp, .int .i64 0]) ∧ pp.isSome = true) ∧ (y2.cell? ⟨w.heap.size, 0, none⟩ = some (.int .i64 p) ∧ y2.cell? ⟨w.heap.size, 1, none⟩ = some (.int .i64 zz) ∧ y2.cell? ⟨w.heap.size, 2, none⟩ = some (.slice ac l.length cc)) ∧ Hid (Nw w8 y2)) := by
            refine (new_t w8.drew (g.upd (N8.out.trans hdr))).mono ?_
            rintro e y ⟨db2, rfl, sy⟩
            have ny := hdr.trans sy.nw0
            refine ⟨db2, rfl, man_cells (Nw.keep ny HB8.out), ?_⟩
            have hvy := owns_upd' HV8.out ny (fun _ _ e => e)
            refine (fopen_t (m := ⟨p, zz, l⟩) (cs := cs) sy (g.upd (N8.out.trans hdr)) (f := 0) (I64_s (by decide)) hvy (fun k e => Or.inr ((HV8.out.lt k e).2)) (HCV8.out.nw ny) (fun k h1 h2 => Or.inr (by have := N8.out.size; show k < w8.heap.size; omega)) ⟨HC.out.len, HC.out.sm⟩ HC.out.nodup (by dsimp only; have := Hodd.out.2; omega)).mono ?_
            rintro e y2 ⟨pv, rfl, mv, fv⟩
            have ny2 : Nw w8 y2 := ny.trans' mv (fun k hk s => by have := s.2; have e9 : w8.drew.heap.size = w8.heap.size := rfl; omega)
            refine ⟨?_, man_cells (Nw.keep ny2 HB8.out), ny2⟩
            have hR := hRW.out
            rcases fv with ⟨e1, rfl, _⟩ | ⟨j, x, e1, rfl, _⟩
            · rw [hR.2.1]
              refine ⟨none, rfl, ?_⟩
              rw [← hR.2.2, e1]; rfl
            · rw [hR.2.1]
              refine ⟨_, rfl, ?_⟩
              rw [← hR.2.2, e1]; rfl
          have HNew := Lib.hid hNew
          clear hNew hdr
          go_region_held3 (fun y => y.cell? ⟨w.heap.size, 0, none⟩ = some (.int .i64 p) ∧ y.cell? ⟨w.heap.size, 1, none⟩ = some (.int .i64 zz) ∧ y.cell? ⟨w.heap.size, 2, none⟩ = some (.slice ac l.length cc)) (first | exact ⟨q0, q1, q2⟩ | assumption | go_keep) (first | (go_at_call 8; (with_reducible refine HNew.out.mono ?_); rintro _ w9 ⟨db2, rfl, cy9, HOp⟩) | (go_at_call 9; (with_reducible refine HOp.out.mono ?_); rintro _ w10 ⟨⟨pp, rfl, hpp⟩, cy10, U10⟩))
          obtain ⟨px, rfl⟩ := Option.isSome_iff_exists.1 hpp
          -- true: whether the other manifest is right
          have hv10 := owns_upd' HV8.out U10.out (fun _ _ e => e)
          have hrt := right_c _ _ _ _ _ cs p zz _ l w10 (g.upd (N8.out.trans U10.out)) (Sl.of_owns hv10) ⟨HC.out.len, HC.out.sm⟩ HC.out.nodup (HCV8.out.nw U10.out) (by have := Hodd.out.2; omega)
          rw [hRW.out.1] at hrt
          have HRt := Lib.hid hrt
          have HV10 := Lib.hid hv10
          obtain ⟨q0', q1', q2'⟩ := cy10
          clear HNew HOp cy9 hv10 hrt hRW q0 q1 q2
          go_wp2_with fail
          (with_reducible refine (HRt.out).mono ?_)
          rintro _ w11 ⟨rfl, u11⟩
          have U11 := Lib.hid (U10.out.trans u11)
          have HV11 := Lib.hid (owns_upd' HV10.out u11 (fun _ _ e => e))
          have hof := of_c _ _ cs digB 2 (by decide) w11 (g.upd (N8.out.trans U11.out)) HV11.out ⟨HC.out.len, HC.out.sm⟩ (by have := hcl20; show cs.length + 10 ≤ 85; omega) HC.out.nodup (by decide)
          have HOf : Hid (Calls Tryd.prog 14 #[.slice av cs.length cv2, .string ⟨#[48, 49, 50, 51, 52, 53, 54, 55, 56, 57]⟩, .int .i64 3] w11 _) := hof
          clear hof u11 HRt q0' q1' q2' U10 HV10
          go_wp2_with fail
          (with_reducible refine (HOf.out).mono ?_)
          rintro _ w12 ⟨v12, kv12, rfl, hd12⟩
          generalize hcs2 : Ck.conts cs digB 2 = cs2 at *
          generalize hm2 : Ck.man cs digB 2 = m2 at *
          obtain ⟨g1, g2, g3⟩ := hd12
          rw [hcs2] at g2
          rw [hm2] at g3
          have HC2 : Hid (Ft.Cut cs2 m2 digB) := by
            show Ft.Cut cs2 m2 digB
            rw [← hcs2, ← hm2]
            exact Ft.cut_ok HC.out.nodup (by have := hcl20; show cs.length + 10 ≤ 85; omega) HC.out.sm (by decide) (by decide)
          have HMo : Hid (∃ r, cs2 = cs ++ r) := by
            show ∃ r, cs2 = cs ++ r
            rw [← hcs2]
            exact Ft.conts_more _ _ _
          clear hcs2 hm2 HOf
          obtain ⟨m2p, m2z, m2c⟩ := m2
          dsimp only at *
          obtain ⟨a12, c12, rfl⟩ := own_slG g2
          obtain ⟨b12, e12, rfl⟩ := own_slG g3
          have hbn : (w12.alloc (.cells #[.int .i64 m2p, .int .i64 m2z, .slice b12 m2c.length e12] tManU)).heap[w12.heap.size]? = some (manO m2p m2z (.slice b12 m2c.length e12)) := heap_new _ _
          have nbn : Nw w12 (w12.alloc (.cells #[.int .i64 m2p, .int .i64 m2z, .slice b12 m2c.length e12] tManU)) := nw_alloc _ _
          have U13 := Lib.hid (U11.out.trans (g1.trans nbn))
          have U12 := Lib.hid (U11.out.trans g1)
          have HV12 := Lib.hid g2
          have HK12 := Lib.hid g3
          have HN12 := Lib.hid nbn
          have HBn := Lib.hid hbn
          have HZ12 := Lib.hid g1.size
          have HZ13 := Lib.hid (lt_of_block hbn)
          have HU11z := Lib.hid U11.out.size
          clear g1 g2 g3 hbn nbn U11 HV11
          go_wp2_with fail
          refine wp_region_nw (by kernel_rfl) (by kernel_rfl) ?_
          repeat (go_big_quiet_step ((fail)))
          refine wpQuiet_nil ?_
          intro w14 u14
          replace u14 := later_out u14
          have U14 := Lib.hid (U13.out.trans u14)
          have V14 := Lib.hid (HN12.out.trans u14)
          have HV13 := Lib.hid u14
          clear u14
          have HRes : Hid (∃ D3, Ft.fopen D2 0 cs2 ⟨m2p, m2z, m2c⟩ = (D3, some ⟨0, [], false⟩, 0)) := by
            have hj := HY2.out
            obtain ⟨D3, h3⟩ := Ft.fopen_other HFt.out.up (by rw [hj]) (fun x hx => by rw [hj] at hx; cases hx) HC2.out.right
            refine ⟨D3, ?_⟩
            rw [h3, hj]; rfl
          -- w14: the world; what the file opened anew gives: none, 28
          obtain ⟨D3, hres⟩ := HRes.out
          have hfo := fopen_t (m := ⟨m2p, m2z, m2c⟩) (cs := cs2) ((S8.out.forget).keep (F' := fun k => w11.heap.size ≤ k ∧ k < w12.heap.size) U14.out (fun k hk => Or.inr ⟨by have := hk.1; have := HU11z.out; omega, by have := hk.2; have := V14.out.size; omega⟩)) HGW.out (f := 0) (I64_s (by decide)) (owns_upd' HV12.out V14.out (fun _ _ e => e)) (fun k e => Or.inl (HV12.out.lt k e)) ((Sl.of_owns HK12.out).nw V14.out) (fun k h1 h2 => Or.inl ⟨h1, h2⟩) ⟨HC2.out.len, HC2.out.sm⟩ HC2.out.nodup (by have := HC2.out.chunks; dsimp only at this ⊢; omega)
          rw [hres] at hfo
          have HFo := Lib.hid hfo
          obtain ⟨t0, t1, t2⟩ := man_cells (Nw.keep HV13.out HBn.out)
          clear hfo hres
          go_wp2_with fail
          (with_reducible refine (HFo.out).mono ?_)
          rintro _ w15 ⟨pv15, rfl, m15, f15⟩
          rcases f15 with ⟨e, _, _⟩ | ⟨j15, x15, e, rfl, s15⟩
          · cases e
          · have NE := Lib.hid (HNm.out.trans s15.nw0)
            clear s15
            go_wp2_with fail
            go_ret
            exact ⟨rfl, NE.out⟩
        | false =>
          have hRW := HRW.out _ hrw
          clear hrw HRW
          go_wp2_with fail
          -- false: whether the other manifest is right; 1: the error
          have hdr : Nw w8 w8.drew := (Upd.refl _ _).drew
          obtain ⟨q0, q1, q2⟩ := man_cells (Nw.keep hdr HB8.out)
          have hNew : Calls Tryd.prog 8 #[] w8.drew fun e y => ∃ db2, e = .returned (.pointer (some ⟨db2, 0, none⟩)) ∧ (y.cell? ⟨w.heap.size, 0, none⟩ = some (.int .i64 p) ∧ y.cell? ⟨w.heap.size, 1, none⟩ = some (.int .i64 zz) ∧ y.cell? ⟨w.heap.size, 2, none⟩ = some (.slice ac l.length cc)) ∧
              Hid (Calls Tryd.prog 9 #[.pointer (some ⟨db2, 0, none⟩), .int .i64 0, .slice av cs.length cv2, .agg #[.int .i64 p, .int .i64 zz, .slice ac l.length cc]] y fun e y2 => (∃ pp, e = .returned (.tuple #[.pointer pp, .int .i64 1]) ∧ pp.isSome = false) ∧ (y2.cell? ⟨w.heap.size, 0, none⟩ = some (.int .i64 p) ∧ y2.cell? ⟨w.heap.size, 1, none⟩ = some (.int .i64 zz) ∧ y2.cell? ⟨w.heap.size, 2, none⟩ = some (.slice ac l.length cc)) ∧ Hid (Nw w8 y2)) := by
            refine (new_t w8.drew (g.upd (N8.out.trans hdr))).mono ?_
            rintro e y ⟨db2, rfl, sy⟩
            have ny := hdr.trans sy.nw0
            refine ⟨db2, rfl, man_cells (Nw.keep ny HB8.out), ?_⟩
            have hvy := owns_upd' HV8.out ny (fun _ _ e => e)
            refine (fopen_t (m := ⟨p, zz, l⟩) (cs := cs) sy (g.upd (N8.out.trans hdr)) (f := 0) (I64_s (by decide)) hvy (fun k e => Or.inr ((HV8.out.lt k e).2)) (HCV8.out.nw ny) (fun k h1 h2 => Or.inr (by have := N8.out.size; show k < w8.heap.size; omega)) ⟨HC.out.len, HC.out.sm⟩ HC.out.nodup (by dsimp only; have := Hodd.out.2; omega)).mono ?_
            rintro e y2 ⟨pv, rfl, mv, fv⟩
            have ny2 : Nw w8 y2 := ny.trans' mv (fun k hk s => by have := s.2; have e9 : w8.drew.heap.size = w8.heap.size := rfl; omega)
            refine ⟨?_, man_cells (Nw.keep ny2 HB8.out), ny2⟩
            have hR := hRW.out
            rcases fv with ⟨e1, rfl, _⟩ | ⟨j, x, e1, rfl, _⟩
            · rw [hR.2.1]
              refine ⟨none, rfl, ?_⟩
              rw [← hR.2.2, e1]; rfl
            · rw [hR.2.1]
              refine ⟨_, rfl, ?_⟩
              rw [← hR.2.2, e1]; rfl
          have HNew := Lib.hid hNew
          clear hNew hdr
          go_region_held3 (fun y => y.cell? ⟨w.heap.size, 0, none⟩ = some (.int .i64 p) ∧ y.cell? ⟨w.heap.size, 1, none⟩ = some (.int .i64 zz) ∧ y.cell? ⟨w.heap.size, 2, none⟩ = some (.slice ac l.length cc)) (first | exact ⟨q0, q1, q2⟩ | assumption | go_keep) (first | (go_at_call 8; (with_reducible refine HNew.out.mono ?_); rintro _ w9 ⟨db2, rfl, cy9, HOp⟩) | (go_at_call 9; (with_reducible refine HOp.out.mono ?_); rintro _ w10 ⟨⟨pp, rfl, hpp⟩, cy10, U10⟩))
          obtain rfl : pp = none := by simpa using hpp
          -- false: whether the other manifest is right
          have hv10 := owns_upd' HV8.out U10.out (fun _ _ e => e)
          have hrt := right_c _ _ _ _ _ cs p zz _ l w10 (g.upd (N8.out.trans U10.out)) (Sl.of_owns hv10) ⟨HC.out.len, HC.out.sm⟩ HC.out.nodup (HCV8.out.nw U10.out) (by have := Hodd.out.2; omega)
          rw [hRW.out.1] at hrt
          have HRt := Lib.hid hrt
          have HV10 := Lib.hid hv10
          obtain ⟨q0', q1', q2'⟩ := cy10
          clear HNew HOp cy9 hv10 hrt hRW q0 q1 q2
          go_wp2_with fail
          (with_reducible refine (HRt.out).mono ?_)
          rintro _ w11 ⟨rfl, u11⟩
          have U11 := Lib.hid (U10.out.trans u11)
          have HV11 := Lib.hid (owns_upd' HV10.out u11 (fun _ _ e => e))
          have hof := of_c _ _ cs digB 2 (by decide) w11 (g.upd (N8.out.trans U11.out)) HV11.out ⟨HC.out.len, HC.out.sm⟩ (by have := hcl20; show cs.length + 10 ≤ 85; omega) HC.out.nodup (by decide)
          have HOf : Hid (Calls Tryd.prog 14 #[.slice av cs.length cv2, .string ⟨#[48, 49, 50, 51, 52, 53, 54, 55, 56, 57]⟩, .int .i64 3] w11 _) := hof
          clear hof u11 HRt q0' q1' q2' U10 HV10
          go_wp2_with fail
          (with_reducible refine (HOf.out).mono ?_)
          rintro _ w12 ⟨v12, kv12, rfl, hd12⟩
          generalize hcs2 : Ck.conts cs digB 2 = cs2 at *
          generalize hm2 : Ck.man cs digB 2 = m2 at *
          obtain ⟨g1, g2, g3⟩ := hd12
          rw [hcs2] at g2
          rw [hm2] at g3
          have HC2 : Hid (Ft.Cut cs2 m2 digB) := by
            show Ft.Cut cs2 m2 digB
            rw [← hcs2, ← hm2]
            exact Ft.cut_ok HC.out.nodup (by have := hcl20; show cs.length + 10 ≤ 85; omega) HC.out.sm (by decide) (by decide)
          have HMo : Hid (∃ r, cs2 = cs ++ r) := by
            show ∃ r, cs2 = cs ++ r
            rw [← hcs2]
            exact Ft.conts_more _ _ _
          clear hcs2 hm2 HOf
          obtain ⟨m2p, m2z, m2c⟩ := m2
          dsimp only at *
          obtain ⟨a12, c12, rfl⟩ := own_slG g2
          obtain ⟨b12, e12, rfl⟩ := own_slG g3
          have hbn : (w12.alloc (.cells #[.int .i64 m2p, .int .i64 m2z, .slice b12 m2c.length e12] tManU)).heap[w12.heap.size]? = some (manO m2p m2z (.slice b12 m2c.length e12)) := heap_new _ _
          have nbn : Nw w12 (w12.alloc (.cells #[.int .i64 m2p, .int .i64 m2z, .slice b12 m2c.length e12] tManU)) := nw_alloc _ _
          have U13 := Lib.hid (U11.out.trans (g1.trans nbn))
          have U12 := Lib.hid (U11.out.trans g1)
          have HV12 := Lib.hid g2
          have HK12 := Lib.hid g3
          have HN12 := Lib.hid nbn
          have HBn := Lib.hid hbn
          have HZ12 := Lib.hid g1.size
          have HZ13 := Lib.hid (lt_of_block hbn)
          have HU11z := Lib.hid U11.out.size
          clear g1 g2 g3 hbn nbn U11 HV11
          go_wp2_with fail
          refine wp_region_nw (by kernel_rfl) (by kernel_rfl) ?_
          repeat (go_big_quiet_step ((fail)))
          refine wpQuiet_nil ?_
          intro w14 u14
          replace u14 := later_out u14
          have U14 := Lib.hid (U13.out.trans u14)
          have V14 := Lib.hid (HN12.out.trans u14)
          have HV13 := Lib.hid u14
          clear u14
          have HRes : Hid (∃ D3, Ft.fopen D2 0 cs2 ⟨m2p, m2z, m2c⟩ = (D3, some ⟨0, [], false⟩, 0)) := by
            have hj := HY2.out
            obtain ⟨D3, h3⟩ := Ft.fopen_other HFt.out.up (by rw [hj]) (fun x hx => by rw [hj] at hx; cases hx) HC2.out.right
            refine ⟨D3, ?_⟩
            rw [h3, hj]; rfl
          -- w14: the world; what the file opened anew gives: none, 28
          obtain ⟨D3, hres⟩ := HRes.out
          have hfo := fopen_t (m := ⟨m2p, m2z, m2c⟩) (cs := cs2) ((S8.out.forget).keep (F' := fun k => w11.heap.size ≤ k ∧ k < w12.heap.size) U14.out (fun k hk => Or.inr ⟨by have := hk.1; have := HU11z.out; omega, by have := hk.2; have := V14.out.size; omega⟩)) HGW.out (f := 0) (I64_s (by decide)) (owns_upd' HV12.out V14.out (fun _ _ e => e)) (fun k e => Or.inl (HV12.out.lt k e)) ((Sl.of_owns HK12.out).nw V14.out) (fun k h1 h2 => Or.inl ⟨h1, h2⟩) ⟨HC2.out.len, HC2.out.sm⟩ HC2.out.nodup (by have := HC2.out.chunks; dsimp only at this ⊢; omega)
          rw [hres] at hfo
          have HFo := Lib.hid hfo
          obtain ⟨t0, t1, t2⟩ := man_cells (Nw.keep HV13.out HBn.out)
          clear hfo hres
          go_wp2_with fail
          (with_reducible refine (HFo.out).mono ?_)
          rintro _ w15 ⟨pv15, rfl, m15, f15⟩
          rcases f15 with ⟨e, _, _⟩ | ⟨j15, x15, e, rfl, s15⟩
          · cases e
          · have NE := Lib.hid (HNm.out.trans s15.nw0)
            clear s15
            go_wp2_with fail
            go_ret
            exact ⟨rfl, NE.out⟩
theorem refuses_i (s : ByteArray) (hs : s.size ≤ maxLen) (z : Int) (hz : 0 ≤ z ∧ z ≤ 255) (i : Int) (hi : I64 i) (odd : ByteArray) (hodd : odd.size ≤ maxLen) (m : Ck.Man) (cv : Value) (w : World) (g : Gl w) (hcv : Sl 0 w.heap.size w cv (m.chunks.map intD)) :
    Calls Tryd.prog 4 #[.string s, .int .u8 z, .int .i64 i, .string odd, .agg #[.int .i64 m.print, .int .i64 m.size, cv]] w fun e w' => e = .returned (.bool true) ∧ Nw w w' := by
  obtain ⟨z', rfl⟩ : ∃ k : Nat, z = k := ⟨z.toNat, by omega⟩
  have h := refuses_w s hs z' (by omega) i hi odd.data.toList (by rw [← bs_size]; exact hodd) m.print m.size cv m.chunks w g hcv
  rw [bs_eta] at h
  exact h
end Go.Proofs.YtagmlemlagbfkaaDoor
