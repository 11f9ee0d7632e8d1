/- The walk of FetchSurvives. -/
import Derived.Test.YtagmlemlagbfkaaGreatDoorPkFSurv16
import Derived.Test.YtagmlemlagbfkaaGreatDoorPkFSurv19
import Derived.Test.YtagmlemlagbfkaaGreatDoorPkFSurv22
namespace Go.Proofs.YtagmlemlagbfkaaGreatDoor
open Go.RowKit
set_option linter.unusedVariables false
set_option linter.unusedSimpArgs false
attribute [local irreducible] Calls

theorem own_small {cs : List (List UInt8)} {mc : List Int} {i : Int} {t : List UInt8} (hs : ∀ s ∈ cs, s.length ≤ 100) (ht : t.length ≤ 100) : (ownT cs mc i t).length ≤ 100 := by
  unfold ownT
  split
  · exact ht
  · unfold textAtU
    split
    · rw [List.getD_eq_getElem?_getD]
      cases h : cs[(mc.getD i.toNat 0).toNat]? with
      | none => simp
      | some s => exact hs s (List.mem_of_getElem? h)
    · simp
/-- What is missing of the chunks behind the records. -/
abbrev goneR (cs : List (List UInt8)) (mc : List Int) (R : List (List UInt8)) : List Int := Ft.miss mc (R.map (Ft.prOf cs))
/-- Between the operations: the fetch, and the list `sure`. -/
def SvI (W : World) (db : Nat) (cs : List (List UInt8)) (mp mz : Int) (mc : List Int) (n : Nat) (xv sv : Value) (z : World) : Prop :=
  ∃ x j D all R, xv = .pointer (some ⟨FtR.fb x, 0, none⟩) ∧ FS W db x j cs ⟨mp, mz, mc⟩ D (fun k => sv.ownBlock = some k) z ∧ Ft.Sv cs ⟨mp, mz, mc⟩ D j all R n ∧ z.ownsRow W.heap.size 3 1 sv (goneR cs mc R).length ((goneR cs mc R).map intD)
set_option maxHeartbeats 16000000 in
set_option maxRecDepth 100000 in
theorem survives_w (s : ByteArray) (hs : s.size ≤ 9223372036854775807) (zb : Nat) (hzb : zb < 256) (v2 : Value) (L : List (Value × FOp)) (w : World) (g : Gl w) (hL : FOpS w.heap.size w v2 L) :
    Calls Tryz.prog 6 #[.string s, .int .u8 zb, v2] w fun e w' => e = .returned (.bool true) ∧ Nw w w' := by
  have hgb := g.big
  have HSm := Lib.hid (small38_c w g)
  have hs1 : (s.size : Int) ≤ 9223372036854775807 := by omega
  have htl : (s.data.toList.take 60).length ≤ 60 := List.length_take_le _ _
  have HCut := Lib.hid (fun (y : World) (u : Nw w y) => cut_c (s.data.toList.take 60) htl zb hzb y (g.upd u))
  rw [← take60E s] at HCut
  have HC := Lib.hid (Ft.cut_ok (cs0 := [otherB]) (by decide) (t := s.data.toList.take 60) (by show 1 + _ ≤ 85; omega) (by decide) htl (n := zb % 9) (by omega))
  have hz1 : (zb : Int) ≤ 255 := by omega
  have HLr := Lib.hid hL
  have Hfew := Lib.hid (fun (y : World) (u : Nw w y) => few38_c w.heap.size v2 L y (hL.nw u))
  obtain ⟨al, cl, rfl, hLm, -⟩ := fop_cells hL
  have hL1 : (L.length : Int) ≤ 9223372036854775807 := by unfold maxLen at hLm; omega
  clear htl hL hLm
  go_enter Tryz.func6, Tryz.ntmps6
  go_wp2_with fail
  (with_reducible refine (HSm.out).mono ?_)
  rintro _ w1 ⟨rfl, u1⟩
  have U1 := Lib.hid u1
  have hcut := Lib.hid (HCut.out w1 u1)
  clear HSm HCut u1
  go_wp2_with fail
  (with_reducible refine (hcut.out).mono ?_)
  rintro _ w2 ⟨v2, kv, rfl, hd⟩
  clear hcut
  generalize s.data.toList.take 60 = tx at *
  generalize hcs : Ck.conts [otherB] tx (zb % 9) = cs at *
  generalize hm : Ck.man [otherB] tx (zb % 9) = m at *
  obtain ⟨d1, d2, d3⟩ := hd
  rw [hcs] at d2
  rw [hm] at d3
  clear hcs hm
  obtain ⟨mp, mz, mc⟩ := m
  dsimp only at *
  obtain ⟨av, cv, rfl⟩ := own_slG d2
  obtain ⟨ak, ck, rfl⟩ := own_slG d3
  have N2 := Lib.hid (U1.out.trans d1)
  have nm : Nw w2 (w2.alloc (.cells #[.int .i64 mp, .int .i64 mz, .slice ak mc.length ck] tManU)) := nw_alloc _ _
  have bm : (w2.alloc (.cells #[.int .i64 mp, .int .i64 mz, .slice ak mc.length ck] tManU)).heap[w2.heap.size]? = some (.cells #[.int .i64 mp, .int .i64 mz, .slice ak mc.length ck] tManU (0, 0)) := heap_new _ _
  have hn := Lib.hid (new_t _ (g.upd (N2.out.trans nm)))
  have HV := Lib.hid (owns_upd' d2 nm (fun _ _ e => e))
  have HK := Lib.hid (owns_upd' d3 nm (fun _ _ e => e))
  have HBm := Lib.hid bm
  have HNm := Lib.hid (N2.out.trans nm)
  have hmc := HC.out.chunks
  dsimp only at hmc
  have hmc1 : (mc.length : Int) ≤ 60 := by omega
  clear d1 d2 d3 nm bm
  generalize hW : w2.alloc (.cells #[.int .i64 mp, .int .i64 mz, .slice ak mc.length ck] tManU) = W at *
  have HW := Lib.hid hW
  go_wp2_with fail
  (with_reducible refine (hn.out).mono ?_)
  rintro _ w4 ⟨db, rfl, s4⟩
  have N4 := Lib.hid (HNm.out.trans s4.nw0)
  have S4 := Lib.hid s4
  have hfew := Lib.hid (Hfew.out w4 N4.out)
  have HGW := Lib.hid (g.upd HNm.out)
  clear s4 hn Hfew
  go_wp2_with fail
  (with_reducible refine (hfew.out).mono ?_)
  rintro _ _ ⟨rfl, rfl⟩
  cases hB : fewFB L with
  | false =>
    clear hB
    go_wp2_with fail
    go_ret
    exact ⟨rfl, N4.out⟩
  | true =>
  have hF := Lib.hid (fewFB_iff.1 hB)
  clear hB hfew
  have hL20 : (L.length : Int) ≤ 20 := by have := hF.out.2; omega
  have hk4 := (Sl.of_owns HK.out).nw S4.out.nw0
  have hbm4 := Nw.keep S4.out.nw0 HBm.out
  obtain ⟨D1, hf1, hsv1⟩ := Ft.sv_new (cs := cs) (m := ⟨mp, mz, mc⟩) HC.out.right
  have ho := fopen_t (m := ⟨mp, mz, mc⟩) (cs := cs) S4.out HGW.out (f := 1) (I64_s (by decide)) (owns_upd' HV.out S4.out.nw0 (fun _ _ e => e)) (fun k e => Or.inr ((HV.out.lt k e).2)) hk4 (fun k h1 h2 => Or.inr h2) ⟨HC.out.len, HC.out.sm⟩ HC.out.nodup (by dsimp only; omega)
  rw [hf1] at ho
  have Ho := Lib.hid ho
  have HSv1 := Lib.hid hsv1
  have k0 : w4.cell? ⟨w2.heap.size, 0, none⟩ = some (.int .i64 mp) := by rw [cells_cell hbm4]; rfl
  have k1 : w4.cell? ⟨w2.heap.size, 1, none⟩ = some (.int .i64 mz) := by rw [cells_cell hbm4]; rfl
  have k2 : w4.cell? ⟨w2.heap.size, 2, none⟩ = some (.slice ak mc.length ck) := by rw [cells_cell hbm4]; rfl
  clear hf1 hsv1 ho hk4 hbm4
  go_wp2_with fail
  (with_reducible refine (Ho.out).mono ?_)
  rintro _ w5 ⟨pv5, rfl, m5, f5⟩
  rcases f5 with ⟨e, _, _⟩ | ⟨j5, x5, e, rfl, s5⟩
  · cases e
  obtain rfl := Option.some.inj e
  have S5 := Lib.hid s5
  have hmi := fmissing_t s5 HGW.out (by dsimp only; omega) (by dsimp only; decide)
  have HMi := Lib.hid hmi
  clear hmi e m5 s5 Ho k0 k1 k2
  go_wp2_with fail
  (with_reducible refine (HMi.out).mono ?_)
  rintro _ w6 ⟨v6, rfl, o6, u6⟩
  have hI0 : Hid (SvI W db cs mp mz mc 0 (.pointer (some ⟨x5.fb, 0, none⟩)) v6 w6) :=
    ⟨x5, _, D1, [], [], rfl, S5.out.keep u6 (fun k hk => Or.inr (o6.lt k hk)), HSv1.out, owns_base o6 S5.out.nw0.size⟩
  clear o6 u6 HMi
  go_wp2_with fail
  go_loopw [12, 14, 15] (fun xv sv iv wr => ∃ k : Nat, k ≤ L.length ∧ iv = .int .i64 k ∧ Hid (SvI W db cs mp mz mc k xv sv wr)) (fun _ _ iv _ => L.length - (intOf iv).toNat)
  case atStart => exact ⟨0, Nat.zero_le _, rfl, hI0.out⟩
  case round =>
    obtain ⟨k, hk, rfl, HI⟩ := hrel
    obtain ⟨x, j, D, all, R, rfl, G, SV, os⟩ := HI.out
    obtain ⟨sa, sc, rfl⟩ := own_slG os
    have HG := Lib.hid G
    have HS := Lib.hid SV
    have HO := Lib.hid os
    obtain ⟨a', cap', ev, _, hcells⟩ := fop_cells (HLr.out.nw (HNm.out.trans G.nw0))
    simp only [Value.slice.injEq, true_and] at ev
    obtain ⟨rfl, rfl⟩ := ev
    clear G SV os HI
    by_cases hlt : k < L.length
    · have hki : (k : Int) < L.length := by omega
      rcases hcells with hnil | ⟨b, off, rfl, hbh, hbw, hcell⟩
      · rw [hnil] at hlt; simp at hlt
      obtain ⟨x0, x1, x2, x3⟩ := hcell k hlt
      obtain ⟨q1, q2, q3, q4⟩ := HLr.out.each L[k] (List.getElem_mem hlt)
      obtain ⟨q5, q6⟩ := hF.out.1 L[k] (List.getElem_mem hlt)
      have hkk : k ≤ 20 := by omega
      clear hcell
      generalize L[k] = c at *
      obtain ⟨kv, kd, nn, ss, kp⟩ := c
      dsimp only at *
      obtain ⟨ap, cp, rfl, _, _⟩ := int_cells q1
      have HQ := Lib.hid (And.intro q1 (And.intro q3 (And.intro q4 (And.intro q5 q6))))
      clear q1 q2 q3 q4 q5 q6
      obtain ⟨wo, hwo, n0, hbx⟩ : ∃ z, z = wr.alloc (.cells #[.int .i64 kd, .int .i64 nn, .string ⟨ss.toArray⟩, .slice ap kp.length cp] 103) ∧ Nw wr z ∧ z.heap[wr.heap.size]? = some (.cells #[.int .i64 kd, .int .i64 nn, .string ⟨ss.toArray⟩, .slice ap kp.length cp] 103 (0, 0)) := ⟨_, rfl, nw_alloc wr _, heap_new wr _⟩
      have HGo := Lib.hid (HG.out.keep (F' := fun k => (Value.slice sa (goneR cs mc R).length sc).ownBlock = some k ∨ k = wr.heap.size) n0 (fun k hk => hk.imp id (fun e => by subst e; exact ⟨Nat.le_refl _, lt_of_block hbx⟩)))
      have Ho := Lib.hid (owns_upd' HO.out n0 (fun _ _ e => e))
      have HW2 := Lib.hid (And.intro hwo (And.intro n0 hbx))
      clear hwo n0 hbx
      by_cases e3 : kd = 3
      · subst e3
        have hc := arm_t HGo.out.gs HGW.out HQ.out.2.1 0 w.heap.size (.slice ap kp.length cp) kp HQ.out.2.2.1 (HQ.out.1.nw (HNm.out.trans HGo.out.nw0)) (by have := HQ.out.2.2.2.2; omega)
        rw [HW2.out.1] at hc
        have Hc := Lib.hid hc
        clear hc
        go_wp2_with fail
        (with_reducible refine (Hc.out).mono ?_)
        rintro _ w8 ⟨rfl, G8, m8⟩
        rw [← HW2.out.1] at m8
        obtain ⟨f8, m8⟩ := HGo.out.of_gs m8 G8 rfl
        have HF8 := Lib.hid (And.intro f8 m8)
        clear G8 f8 m8 Hc
        have hz : Hid (SvI W db cs mp mz mc (k + 1) (.pointer (some ⟨x.fb, 0, none⟩)) (.slice sa (goneR cs mc R).length sc) w8) := ⟨x, j, _, all, R, rfl, HF8.out.1.keep (Upd.refl _ _) (fun k hk => Or.inl (Or.inl hk)), (HS.out.arm HQ.out.2.1.2 kp).mono (by omega), owns_kept Ho.out HF8.out.2 (fun k e => Or.inl (Or.inl e))⟩
        go_wp2_with fail
        go_roundw
        case rel => exact ⟨k + 1, by omega, by go_num, hz.out⟩
        case measure => simp [intOf]; omega
      have b3 : (kd == 3) = false := beq_eq_false_iff_ne.2 e3
      by_cases e1 : kd = 1
      · subst e1
        have hc := fsync_t HGo.out HGW.out
        rw [HW2.out.1] at hc
        have Hc := Lib.hid hc
        have hst := Lib.hid HS.out.sync
        clear hc b3
        go_wp2_with fail
        (with_reducible refine (Hc.out).mono ?_)
        rintro _ w8 ⟨rfl, f8, m8⟩
        rw [← HW2.out.1] at m8
        have HF8 := Lib.hid (And.intro f8 m8)
        have hO8 := Lib.hid (owns_kept Ho.out HF8.out.2 (fun k e => Or.inl (Or.inl e)))
        clear f8 m8 Hc
        generalize Jr.syncJ D j = X at *
        obtain ⟨D8, j8, E⟩ := X
        dsimp only at *
        obtain ⟨hr8, R', hR1, hR2, hsv8⟩ := hst.out
        have HSV8 := Lib.hid hsv8
        have HR8 := Lib.hid (And.intro hr8 (And.intro hR1 hR2))
        clear hst hr8 hR1 hR2 hsv8
        by_cases hE : E = 0
        · subst hE
          obtain rfl := HR8.out.2.1 rfl
          have hmi := fmissing_t HF8.out.1 HGW.out (by dsimp only; omega) (by have := HSV8.out.jl; omega)
          have eg : Ft.gone cs ⟨mp, mz, mc⟩ j8 = goneR cs mc j.recs := by unfold Ft.gone Ft.come; rw [HR8.out.1]
          rw [eg] at hmi
          have HMi := Lib.hid hmi
          clear hmi eg
          go_wp2_with fail
          (with_reducible refine (HMi.out).mono ?_)
          rintro _ w9 ⟨v9, rfl, o9, u9⟩
          have hzz : Hid (SvI W db cs mp mz mc (k + 1) (.pointer (some ⟨x.fb, 0, none⟩)) v9 w9) := ⟨x, j8, D8, all, j.recs, rfl, HF8.out.1.keep u9 (fun k hk => Or.inr (o9.lt k hk)), HSV8.out.mono (by omega), owns_base o9 HF8.out.1.nw0.size⟩
          clear o9 u9 HMi
          have hz : Hid (SvI W db cs mp mz mc (k + 1) (.pointer (some ⟨x.fb, 0, none⟩)) v9 w9) := hzz.out
          go_wp2_with fail
          go_roundw
          case rel => exact ⟨k + 1, by omega, by go_num, hz.out⟩
          case measure => simp [intOf]; omega
        · obtain rfl := HR8.out.2.2 hE
          have be : (E == 0) = false := beq_eq_false_iff_ne.2 hE
          clear hE
          have hz : Hid (SvI W db cs mp mz mc (k + 1) (.pointer (some ⟨x.fb, 0, none⟩)) (.slice sa (goneR cs mc R').length sc) w8) := ⟨x, j8, D8, all, R', rfl, HF8.out.1.keep (Upd.refl _ _) (fun k hk => Or.inl (Or.inl hk)), HSV8.out.mono (by omega), hO8.out⟩
          go_wp2_with fail
          go_roundw
          case rel => exact ⟨k + 1, by omega, by go_num, hz.out⟩
          case measure => simp [intOf]; omega
      have b1 : (kd == 1) = false := beq_eq_false_iff_ne.2 e1
      by_cases e0 : kd = 0
      · subst e0
        have hbm := Nw.keep HGo.out.nw0 HBm.out
        have hbo := HW2.out.2.2
        obtain ⟨Pc, hPc⟩ : ∃ Pc : World → Prop, Pc = fun y => y.cell? ⟨w2.heap.size, 0, none⟩ = some (.int .i64 mp) ∧ y.cell? ⟨w2.heap.size, 1, none⟩ = some (.int .i64 mz) ∧ y.cell? ⟨w2.heap.size, 2, none⟩ = some (.slice ak mc.length ck) ∧ y.cell? ⟨wr.heap.size, 1, none⟩ = some (.int .i64 nn) ∧ y.cell? ⟨wr.heap.size, 2, none⟩ = some (.string ⟨ss.toArray⟩) := ⟨_, rfl⟩
        have hP : ∀ y : World, y.heap[w2.heap.size]? = some (.cells #[.int .i64 mp, .int .i64 mz, .slice ak mc.length ck] tManU (0, 0)) → y.heap[wr.heap.size]? = some (.cells #[.int .i64 0, .int .i64 nn, .string ⟨ss.toArray⟩, .slice ap kp.length cp] 103 (0, 0)) → Pc y := fun y h1 h2 => by
          subst hPc
          exact ⟨by rw [cells_cell h1]; rfl, by rw [cells_cell h1]; rfl, by rw [cells_cell h1]; rfl, by rw [cells_cell h2]; rfl, by rw [cells_cell h2]; rfl⟩
        have HKc := Lib.hid (fun (y : World) (u : Nw wo y) => hP y (Nw.keep u hbm) (Nw.keep u hbo))
        have hol : (ownT cs mc nn ss).length ≤ 100 := own_small HC.out.sm HQ.out.2.2.2.1
        have HTk : Hid (∀ y, Nw wo y → Calls Tryz.prog 42 #[.pointer (some ⟨x.fb, 0, none⟩), .int .i64 nn, .string ⟨(ownT cs mc nn ss).toArray⟩] y fun e y' => (∃ n : Int, e = .returned (.int .i64 n)) ∧ Pc y' ∧ SvI W db cs mp mz mc (k + 1) (.pointer (some ⟨x.fb, 0, none⟩)) (.slice sa (goneR cs mc R).length sc) y') := fun y u => by
          refine (take_t (HGo.out.nw u) HGW.out (by dsimp only; omega) (by have := HS.out.jl; omega) HC.out.len HC.out.nodup HQ.out.2.1 (t := ownT cs mc nn ss) (by omega)).mono ?_
          rintro e y' ⟨he, x', hx', f', m'⟩
          have hlt1 := lt_of_block hbm
          have hwo := lt_of_block HBm.out
          have hlt2 := lt_of_block hbo
          obtain ⟨all', hsv'⟩ := HS.out.take (by omega) HC.out.nodup (fun z hz => by have := (HC.out.each z hz).2.2; omega) nn (ownT cs mc nn ss)
          refine ⟨⟨_, he⟩, hP y' (m'.keep (Nw.keep u hbm) (fun s => by have := s.2; omega)) (m'.keep (Nw.keep u hbo) (fun s => s.1 (Or.inr rfl))), x', _, _, all', R, by rw [hx'], f'.keep (Upd.refl _ _) (fun k hk => Or.inl (Or.inl hk)), hsv', owns_kept (owns_upd' Ho.out u (fun _ _ e => e)) m' (fun k e => Or.inl (Or.inl e))⟩
        have HOwn : Hid (∀ y, Nw wo y → Calls Tryz.prog 43 #[.slice av cs.length cv, .agg #[.int .i64 mp, .int .i64 mz, .slice ak mc.length ck], .int .i64 nn, .string ⟨ss.toArray⟩] y fun e y' => e = .returned (.string ⟨(ownT cs mc nn ss).toArray⟩) ∧ Pc y' ∧ Calls Tryz.prog 42 #[.pointer (some ⟨x.fb, 0, none⟩), .int .i64 nn, .string ⟨(ownT cs mc nn ss).toArray⟩] y' fun e y' => (∃ n : Int, e = .returned (.int .i64 n)) ∧ Pc y' ∧ SvI W db cs mp mz mc (k + 1) (.pointer (some ⟨x.fb, 0, none⟩)) (.slice sa (goneR cs mc R).length sc) y') := fun y u => by
          have uW := HGo.out.nw0.trans u
          refine (own_c _ _ _ _ _ cs mp mz _ mc nn HQ.out.2.1 ss y ((Sl.of_owns HV.out).nw uW) HC.out.len ((Sl.of_owns HK.out).nw uW) (by omega)).mono ?_
          rintro e y' ⟨he, u'⟩
          exact ⟨he, HKc.out _ (u.trans u'), HTk.out _ (u.trans u')⟩
        rw [HW2.out.1] at HKc HOwn
        subst hPc
        clear hP hbm hbo HTk hol b1 b3
        go_wp2_with fail
        go_region_held3 (fun y => y.cell? ⟨w2.heap.size, 0, none⟩ = some (.int .i64 mp) ∧ y.cell? ⟨w2.heap.size, 1, none⟩ = some (.int .i64 mz) ∧ y.cell? ⟨w2.heap.size, 2, none⟩ = some (.slice ak mc.length ck) ∧ y.cell? ⟨wr.heap.size, 1, none⟩ = some (.int .i64 nn) ∧ y.cell? ⟨wr.heap.size, 2, none⟩ = some (.string ⟨ss.toArray⟩)) (with_reducible first | exact HKc.out _ (Upd.refl _ _).drew | exact HKc.out _ (Upd.refl _ _) | assumption | go_keep) (first | (go_at_call 43; (with_reducible refine (HOwn.out _ (by first | exact (Upd.refl _ _).drew | exact Upd.refl _ _)).mono ?_); rintro _ w8 ⟨rfl, cy8, HTk⟩) | (go_at_call 42; (with_reducible refine HTk.mono ?_); rintro _ w9 ⟨⟨_, rfl⟩, cy9, hI9⟩))
        have hz : Hid (SvI W db cs mp mz mc (k + 1) (.pointer (some ⟨x.fb, 0, none⟩)) (.slice sa (goneR cs mc R).length sc) w9) := hI9
        go_wp2_with fail
        go_roundw
        case rel => exact ⟨k + 1, by omega, by go_num, hz.out⟩
        case measure => simp [intOf]; omega
      have b0 : (kd == 0) = false := beq_eq_false_iff_ne.2 e0
      by_cases e4 : kd = 4
      · subst e4
        have hmi := fmissing_t HGo.out HGW.out (by dsimp only; omega) (by have := HS.out.jl; omega)
        rw [show Ft.gone cs ⟨mp, mz, mc⟩ j = goneR cs mc j.recs from rfl, HW2.out.1] at hmi
        have HMi := Lib.hid hmi
        clear hmi b0 b1 b3 e0 e1 e3
        go_wp2_with fail
        (with_reducible refine (HMi.out).mono ?_)
        rintro _ w8 ⟨v8, rfl, o8, u8⟩
        rw [← HW2.out.1] at o8 u8
        obtain ⟨wa, wc, rfl⟩ := own_slG o8
        have HF8 := Lib.hid (HGo.out.keep (F' := fun k => ((Value.slice sa (goneR cs mc R).length sc).ownBlock = some k ∨ k = wr.heap.size) ∨ (Value.slice wa (goneR cs mc j.recs).length wc).ownBlock = some k) u8 (fun k hk => hk.imp id (fun e => o8.lt k e)))
        have HO8 := Lib.hid (owns_upd' Ho.out u8 (fun _ _ e => e))
        have HA8 := Lib.hid o8
        have x8 : w8.cell? ⟨wr.heap.size, 3, none⟩ = some (.slice ap kp.length cp) := by rw [cells_cell (Nw.keep u8 HW2.out.2.2)]; rfl
        have hc := crash_t HF8.out.gs HGW.out 0 w.heap.size HNm.out.size (.slice ap kp.length cp) kp HQ.out.2.2.1 (HQ.out.1.nw HNm.out)
        have Hc := Lib.hid hc
        clear hc o8 u8 HMi
        go_wp2_with fail
        (with_reducible refine (Hc.out).mono ?_)
        rintro _ w9 ⟨rfl, G9, m9⟩
        obtain ⟨f9, m9⟩ := HF8.out.of_gs m9 G9 rfl
        have HF9 := Lib.hid f9
        have HO9 := Lib.hid (owns_kept HO8.out m9 (fun k e => Or.inl (Or.inl (Or.inl e))))
        have HA9 := Lib.hid (owns_kept HA8.out m9 (fun k e => Or.inl (Or.inr e)))
        have hc := start_t HF9.out.gs
        have Hs := Lib.hid hc
        clear hc G9 f9 m9 x8 Hc
        go_wp2_with fail
        (with_reducible refine (Hs.out).mono ?_)
        rintro _ w10 ⟨rfl, G10, m10⟩
        obtain ⟨f10, m10⟩ := HF9.out.of_gs m10 G10 rfl
        have HF10 := Lib.hid f10
        have HO10 := Lib.hid (owns_kept HO9.out m10 (fun k e => Or.inl (Or.inl (Or.inl e))))
        have HA10 := Lib.hid (owns_kept HA9.out m10 (fun k e => Or.inl (Or.inr e)))
        have hc := arm_t HF10.out.gs HGW.out (n := 0) (I64_s (by decide)) 0 0 (.slice none 0 0) [] (fun x hx => by cases hx) (Sl.nil _ _ _ intD) (by decide)
        have Hr := Lib.hid hc
        clear hc G10 f10 m10 Hs
        go_wp2_with fail
        (with_reducible refine (Hr.out).mono ?_)
        rintro _ w11 ⟨rfl, G11, m11⟩
        obtain ⟨f11, m11⟩ := HF10.out.of_gs m11 G11 rfl
        have HF11 := Lib.hid f11
        have HO11 := Lib.hid (owns_kept HO10.out m11 (fun k e => Or.inl (Or.inl (Or.inl e))))
        have HA11 := Lib.hid (owns_kept HA10.out m11 (fun k e => Or.inl (Or.inr e)))
        have hbm := Nw.keep HF11.out.nw0 HBm.out
        have k0 : w11.cell? ⟨w2.heap.size, 0, none⟩ = some (.int .i64 mp) := by rw [cells_cell hbm]; rfl
        have k1 : w11.cell? ⟨w2.heap.size, 1, none⟩ = some (.int .i64 mz) := by rw [cells_cell hbm]; rfl
        have k2 : w11.cell? ⟨w2.heap.size, 2, none⟩ = some (.slice ak mc.length ck) := by rw [cells_cell hbm]; rfl
        obtain ⟨D12, l, hfo, hs12, hl12, hsv12⟩ := HS.out.again HC.out.right kp
        have hc := fopen_t (m := ⟨mp, mz, mc⟩) (cs := cs) HF11.out.forget HGW.out (f := 1) (I64_s (by decide)) (owns_upd' HV.out HF11.out.nw0 (fun _ _ e => e)) (fun k e => Or.inr ((HV.out.lt k e).2)) ((Sl.of_owns HK.out).nw HF11.out.nw0) (fun k h1 h2 => Or.inr h2) ⟨HC.out.len, HC.out.sm⟩ HC.out.nodup (by dsimp only; omega)
        rw [hfo] at hc
        have Hop := Lib.hid hc
        have HSV12 := Lib.hid hsv12
        have hto := Ft.torn_one HS.out hl12
        dsimp only at hto
        obtain ⟨pt, hpt⟩ := hto
        have HPt := Lib.hid hpt
        have HWs := Lib.hid (Ft.within_sure (cs := cs) (m := ⟨mp, mz, mc⟩) hs12)
        clear hc G11 f11 m11 Hr hbm hfo hsv12 hpt hs12 hl12
        go_wp2_with fail
        (with_reducible refine (Hop.out).mono ?_)
        rintro _ w12 ⟨pv12, rfl, m12, f12⟩
        rcases f12 with ⟨e, _, _⟩ | ⟨j12, x12, e, rfl, s12⟩
        · cases e
        obtain rfl := Option.some.inj e
        have HF12 := Lib.hid s12
        have HO12 := Lib.hid (owns_kept HO11.out m12 (fun k e => Or.inl (Or.inl (Or.inl e))))
        have HA12 := Lib.hid (owns_kept HA11.out m12 (fun k e => Or.inl (Or.inr e)))
        have hmi := fmissing_t s12 HGW.out (by dsimp only; omega) (by have := HSV12.out.jl; omega)
        rw [show Ft.gone cs ⟨mp, mz, mc⟩ ⟨1, l, false⟩ = goneR cs mc l from rfl] at hmi
        have HMi := Lib.hid hmi
        clear hmi e s12 m12 Hop k0 k1 k2
        go_wp2_with fail
        (with_reducible refine (HMi.out).mono ?_)
        rintro _ w13 ⟨v13, rfl, o13, u13⟩
        obtain ⟨na, nc, rfl⟩ := own_slG o13
        have HF13 := Lib.hid (HF12.out.nw u13)
        have hbm := Nw.keep HF13.out.nw0 HBm.out
        have HO13 := Lib.hid (owns_upd' HO12.out u13 (fun _ _ e => e))
        have HA13 := Lib.hid (owns_upd' HA12.out u13 (fun _ _ e => e))
        have g1 := Ft.miss_len mc (R.map (Ft.prOf cs))
        have g2 := Ft.miss_len mc (j.recs.map (Ft.prOf cs))
        have g3 := Ft.miss_len mc (l.map (Ft.prOf cs))
        have hwi := within_c _ _ _ _ _ _ (goneR cs mc l) (goneR cs mc R) w13 (Sl.of_owns o13) (Sl.of_owns HO13.out) (by unfold goneR; omega) (by unfold goneR; omega)
        rw [wd_yes (fun i h => HWs.out _ (List.getElem_mem h))] at hwi
        have HWi := Lib.hid hwi
        have HTo := Lib.hid (fun (y : World) (u : Nw w13 y) => torn_c _ _ _ _ _ _ mp mz (.slice ak mc.length ck) mc (.slice wa (goneR cs mc j.recs).length wc) (.slice na (goneR cs mc l).length nc) (goneR cs mc j.recs) (goneR cs mc l) y ((Sl.of_owns HK.out).nw (HF13.out.nw0.trans u)) (by omega) ((Sl.of_owns HA13.out).nw u) (by unfold goneR; omega) ((Sl.of_owns o13).nw u) (by unfold goneR; omega) (fun x hx => by
          obtain ⟨k, hk, h1, _⟩ := Ft.mem_miss.1 hx
          exact ⟨k, hk, h1⟩) pt HPt.out)
        have HO13n := Lib.hid o13
        have U13 := Lib.hid u13
        clear hwi o13 u13 HMi g1 g2 g3
        go_wp2_with fail
        (with_reducible refine (HWi.out).mono ?_)
        rintro _ w14 ⟨rfl, u14⟩
        have hto := HTo.out w14 u14
        have HTo2 := Lib.hid hto
        have k0 : w14.cell? ⟨w2.heap.size, 0, none⟩ = some (.int .i64 mp) := by rw [cells_cell (Nw.keep u14 hbm)]; rfl
        have k1 : w14.cell? ⟨w2.heap.size, 1, none⟩ = some (.int .i64 mz) := by rw [cells_cell (Nw.keep u14 hbm)]; rfl
        have k2 : w14.cell? ⟨w2.heap.size, 2, none⟩ = some (.slice ak mc.length ck) := by rw [cells_cell (Nw.keep u14 hbm)]; rfl
        have U14 := Lib.hid u14
        clear hto u14 HTo HWi hbm
        go_wp2_with fail
        (with_reducible refine (HTo2.out).mono ?_)
        rintro _ w15 ⟨rfl, u15⟩
        have hzz : Hid (SvI W db cs mp mz mc (k + 1) (.pointer (some ⟨x12.fb, 0, none⟩)) (.slice na (goneR cs mc l).length nc) w15) :=
          ⟨x12, _, D12, l, l, rfl, HF12.out.keep (U13.out.trans (U14.out.trans u15)) (fun k hk => Or.inr (by have := HO13n.out.lt k hk; have := U14.out.size; have := u15.size; omega)), HSV12.out.mono (by omega), owns_base (owns_upd' HO13n.out (U14.out.trans u15) (fun _ _ e => e)) HF12.out.nw0.size⟩
        clear u15 HTo2 k0 k1 k2
        have hz : Hid (SvI W db cs mp mz mc (k + 1) (.pointer (some ⟨x12.fb, 0, none⟩)) (.slice na (goneR cs mc l).length nc) w15) := hzz.out
        go_wp2_with fail
        go_roundw
        case rel => exact ⟨k + 1, by omega, by go_num, hz.out⟩
        case measure => simp [intOf]; omega
      have b4 : (kd == 4) = false := beq_eq_false_iff_ne.2 e4
      clear e0 e1 e3 e4
      have hzz : Hid (SvI W db cs mp mz mc (k + 1) (.pointer (some ⟨x.fb, 0, none⟩)) (.slice sa (goneR cs mc R).length sc) (wr.alloc (.cells #[.int .i64 kd, .int .i64 nn, .string ⟨ss.toArray⟩, .slice ap kp.length cp] 103))) := by
        rw [← HW2.out.1]
        exact ⟨x, j, D, all, R, rfl, HGo.out.keep (Upd.refl _ _) (fun k hk => Or.inl (Or.inl hk)), HS.out.mono (by omega), Ho.out⟩
      have hz : Hid (SvI W db cs mp mz mc (k + 1) (.pointer (some ⟨x.fb, 0, none⟩)) (.slice sa (goneR cs mc R).length sc) _) := hzz.out
      go_wp2_with fail
      go_roundw
      case rel => exact ⟨k + 1, by omega, by go_num, hz.out⟩
      case measure => simp [intOf]; omega
    · obtain rfl : k = L.length := by omega
      have NE := Lib.hid (HNm.out.trans HG.out.nw0)
      go_wp2_with fail
      go_ret
      exact ⟨rfl, NE.out⟩
theorem survives_i (s : ByteArray) (hs : s.size ≤ maxLen) (z : Int) (hz : 0 ≤ z ∧ z ≤ 255) (v2 : Value) (L : List (Value × FOp)) (w : World) (g : Gl w) (hL : FOpS w.heap.size w v2 L) :
    Calls Tryz.prog 6 #[.string s, .int .u8 z, v2] w fun e w' => e = .returned (.bool true) ∧ Nw w w' := by
  obtain ⟨z', rfl⟩ : ∃ k : Nat, z = k := ⟨z.toNat, by omega⟩
  exact survives_w s hs z' (by omega) v2 L w g hL
end Go.Proofs.YtagmlemlagbfkaaGreatDoor
