/- The walk of the statement StoreKeeps. -/
import Derived.Test.YtkldcnikeoofiaaGreatDoorPkSK5
import Derived.Test.YtkldcnikeoofiaaGreatDoorPkSK4
namespace Go.Proofs.YtkldcnikeoofiaaGreatDoor
open Go.RowKit
set_option linter.unusedVariables false
set_option linter.unusedSimpArgs false
attribute [local irreducible] Calls CallsIn

abbrev tOpS : TypeId := 45
theorem fewSB_at {C : List GC} (h : fewSB C = true) {k : Nat} (hk : k < C.length) : fewOp C[k] = true := by
  unfold fewSB at h
  obtain ⟨h1, h2⟩ := (Bool.and_eq_true _ _).mp h
  have h3 := of_decide_eq_true h2
  exact List.all_eq_true.1 h1 _ (List.mem_take_iff_getElem.2 ⟨k, by omega, rfl⟩)
set_option maxHeartbeats 8000000 in
set_option maxRecDepth 100000 in
theorem storeKeeps_c (v0 : Value) (C : List GC) (w : World) (g : GmS w) (h0 : GopS w.heap.size w v0 C) :
    Calls Tryz.prog 5 #[v0] w fun e w' => e = .returned (.bool true) ∧ Nw w w' := by
  have hs := Lib.hid (smallS_c w g)
  have hfew := Lib.hid (fun z (u : Nw w z) => few_c (h0.nw u))
  obtain ⟨a0, c0, rfl, m0, _⟩ := gop_cells h0
  unfold maxLen at m0
  have HA := Lib.hid h0
  clear h0 m0
  go_enter Tryz.func5, Tryz.ntmps5
  go_wp2_with fail
  (with_reducible refine (hs.out).mono ?_)
  rintro _ w1 ⟨rfl, u1⟩
  have U1 := Lib.hid u1
  have hfew2 := Lib.hid (hfew.out w1 u1)
  clear hs hfew u1
  go_wp2_with fail
  (with_reducible refine (hfew2.out).mono ?_)
  rintro _ _ ⟨rfl, rfl⟩
  cases hB : fewSB C with
  | false =>
    clear hB
    go_wp2_with fail
    go_ret
    exact ⟨rfl, U1.out⟩
  | true =>
  have hF := Lib.hid hB
  have hB2 := hB
  unfold fewSB at hB2
  have hC17 : C.length ≤ 16 := of_decide_eq_true ((Bool.and_eq_true _ _).mp hB2).2
  clear hB hB2
  have g1 := g.upd U1.out
  have hn := Lib.hid (new_t w1 g1.g)
  clear hfew2
  go_wp2_with fail
  (with_reducible refine (hn.out).mono ?_)
  rintro _ w2 ⟨db, rfl, s2⟩
  have ho := Lib.hid (openC g1 s2 (f := 0) (by omega))
  clear hn s2
  go_wp2_with fail
  (with_reducible refine (ho.out).mono ?_)
  rintro _ w3 ⟨sb, rfl, c3, m3⟩
  have C3 := Lib.hid c3
  clear ho c3 m3
  go_wp2_with fail
  go_loopw [5, 7] (fun sv iv wr => ∃ k : Nat, k ≤ C.length ∧ iv = .int .i64 (k : Int) ∧ Hid (∃ sb S, sv = .pointer (some ⟨sb, 0, none⟩) ∧ CS w1 db 0 (fun _ => False) sb S k wr)) (fun _ iv _ => C.length - (intOf iv).toNat)
  case atStart => exact ⟨0, Nat.zero_le _, rfl, sb, _, rfl, C3.out⟩
  case round =>
    obtain ⟨k, hk, rfl, hr⟩ := hrel
    obtain ⟨sb2, S, rfl, h⟩ := hr.out
    clear hr
    have HC := Lib.hid h
    clear h
    by_cases hlt : k < C.length
    · have uw := U1.out.trans HC.out.nw0
      have hA2 := HA.out.nw uw
      obtain ⟨a', cap', ev, _, hcells⟩ := gop_cells hA2
      simp only [Value.slice.injEq, true_and] at ev
      obtain ⟨rfl, rfl⟩ := ev
      rcases hcells with h | ⟨cb, co, rfl, hcb1, hcb2, hcl⟩
      · omega
      obtain ⟨d0, d1, d2, d3, d4, d5⟩ := hcl k hlt
      obtain ⟨q1, q2, q3, q4, q5, _⟩ := hA2.each _ (List.getElem_mem hlt)
      have hfe := fewSB_at hF.out hlt
      clear hcl hA2 uw
      generalize C[k] = c at *
      obtain ⟨⟨iv, kv⟩, ⟨kd, s, n, ⟨nm, its⟩, keep⟩⟩ := c
      dsimp only at *
      obtain ⟨ia, ic, rfl, _, _⟩ := items_open q1
      obtain ⟨ka, kc, rfl, _, _⟩ := q3.open_
      rw [List.length_map] at *
      clear q3
      rw [show fewOp ((.slice ia its.length ic, .slice ka keep.length kc), ⟨kd, s, n, ⟨nm, its⟩, keep⟩) = (decide (s.length ≤ 300) && (decide (its.length ≤ 6) && (decide (keep.length ≤ 40) && (decide (nm.length ≤ 60) && its.all fun x => decide (x.nm.length ≤ 60))))) from rfl] at hfe
      simp only [Bool.and_eq_true, decide_eq_true_eq, List.all_eq_true] at hfe
      obtain ⟨f1, f2, _, f4, f5⟩ := hfe
      have n5 := nw_alloc wr (.cells #[.int .i64 kd, .string ⟨s.toArray⟩, .int .i64 n, .string ⟨nm.toArray⟩, (.slice ia its.length ic), (.slice ka keep.length kc)] tOpS)
      have b5 := heap_new wr (.cells #[.int .i64 kd, .string ⟨s.toArray⟩, .int .i64 n, .string ⟨nm.toArray⟩, (.slice ia its.length ic), (.slice ka keep.length kc)] tOpS)
      obtain ⟨w5, hw5⟩ : ∃ y, y = wr.alloc (.cells #[.int .i64 kd, .string ⟨s.toArray⟩, .int .i64 n, .string ⟨nm.toArray⟩, (.slice ia its.length ic), (.slice ka keep.length kc)] tOpS) := ⟨_, rfl⟩
      rw [← hw5] at n5 b5
      have HX := Lib.hid (fun x hx => (⟨by have := (f5 x hx); omega, (q2 x hx).2.1, (q2 x hx).2.2.1, (q2 x hx).2.2.2.1, (q2 x hx).2.2.2.2⟩ : ItArg x))
      have HLn := Lib.hid (pfE_few (p := ⟨nm, its⟩) f2 f4 HX.out f5)
      have HB := Lib.hid (And.intro f1 (And.intro f2 f4))
      have HN5 := Lib.hid n5
      have HB5 := Lib.hid b5
      have HQ1 := Lib.hid q1
      have HW5 := Lib.hid hw5
      have HK := Lib.hid (And.intro q4 q5)
      clear n5 b5 q1 q2 q4 q5 hw5 f1 f2 f4 f5 hcb1 hcb2
      go_upto_region 12 with fail
      rw [← HW5.out]
      have l0 : w5.cell? ⟨wr.heap.size, 0, none⟩ = some (.int .i64 kd) := by rw [cells_cell HB5.out]; rfl
      have l1 : w5.cell? ⟨wr.heap.size, 1, none⟩ = some (.string ⟨s.toArray⟩) := by rw [cells_cell HB5.out]; rfl
      have l2 : w5.cell? ⟨wr.heap.size, 2, none⟩ = some (.int .i64 n) := by rw [cells_cell HB5.out]; rfl
      have l3 : w5.cell? ⟨wr.heap.size, 3, none⟩ = some (.string ⟨nm.toArray⟩) := by rw [cells_cell HB5.out]; rfl
      have l4 : w5.cell? ⟨wr.heap.size, 4, none⟩ = some (.slice ia its.length ic) := by rw [cells_cell HB5.out]; rfl
      have l5 : w5.cell? ⟨wr.heap.size, 5, none⟩ = some (.slice ka keep.length kc) := by rw [cells_cell HB5.out]; rfl
      clear d0 d1 d2 d3 d4 d5
      have HC5 := Lib.hid (HC.out.nw HN5.out)
      have HQ5 := Lib.hid (HQ1.out.nw HN5.out)
      by_cases h3 : 0 ≤ kd ∧ kd ≤ 3
      · obtain ⟨h4, h5⟩ := h3
        have hD := doC g1 HC5.out (by omega) (by omega) (k := kd) (m := n) HK.out.1 (s := s) (by have := HB.out.1; omega) (p := ⟨nm, its⟩) (kv := .slice ka keep.length kc) HQ5.out HLn.out (by have := HB.out.2.2; dsimp only; omega) (by have := HB.out.2.1; dsimp only; omega) HX.out
        have HD := Lib.hid hD
        clear hD
        go_wp2_with fail
        (with_reducible refine (HD.out).mono ?_)
        rintro _ w6 ⟨⟨ra, rb, rfl⟩, ⟨S6, c6⟩, m6⟩
        have HC6 := Lib.hid c6
        clear HD c6 m6 l0 l1 l2 l3 l4 l5
        obtain ⟨x6, rfl, g6⟩ := HC6.out.st
        have hN6 := sNumbers_c g6
        have HN6 := Lib.hid hN6
        have HG6 := Lib.hid g6
        clear hN6 g6
        go_wp2_with fail
        (with_reducible refine (HN6.out).mono ?_)
        rintro _ w7 ⟨v7, rfl, hv7, u7⟩
        have HV7 := Lib.hid hv7
        have HU7 := Lib.hid u7
        clear hv7 u7
        go_upto_block 2 with fail
        refine wp_normal (sk_numsV (HG6.out.nw HU7.out) HV7.out _ (by kernel_rfl) ?_)
        intro u2 u11 u12 u13 u14 u74 u75 u76 u77 u78 u79 u80 u81 u82 u83 u84 u85 u86 u87 u88 u89 u90 u91 u92 u93 u94 u95 u96 u97 u98 u99 u100 u101 u102 u103 u104 u105 u106 u107 u108 u109 u110 u111 u112 u113 u114 u115 u116 u117 u118 u119 u120 u121 u122 u123 u124 w8 h8
        have HP := Lib.hid (sProfiles_c (HG6.out.nw (HU7.out.trans h8)))
        have H8 := Lib.hid h8
        clear h8
        go_wp2_with fail
        (with_reducible refine (HP.out).mono ?_)
        rintro _ w9 ⟨v9, rfl, hv9, un9⟩
        have HV9 := Lib.hid hv9
        have UN9 := Lib.hid un9
        clear hv9 un9
        go_upto_block 4 with fail
        refine wp_normal (sk_profsV (HG6.out.nw ((HU7.out.trans H8.out).trans UN9.out)) HV9.out _ (by kernel_rfl) ?_)
        intro u2 u17 u18 u19 u20 u21 u127 u128 u129 u130 u131 u132 u133 u134 u135 u136 u137 u138 u139 u140 u141 u142 u143 u144 u145 u146 u147 u148 u149 u150 u151 u152 u153 u154 u155 u156 u157 u158 u159 u160 u161 u162 u163 u164 u165 u166 u167 u168 u169 u170 u171 u172 u173 u174 u175 u176 u177 u178 u179 u180 u181 u182 u183 u184 u185 u186 u187 u188 w10 h10
        go_wp2_with fail
        go_roundw
        case rel => exact ⟨k + 1, by omega, by simp, x6.sb, S6, rfl, HC6.out.nw (((HU7.out.trans H8.out).trans UN9.out).trans h10)⟩
        case measure => simp only [intOf]; omega
      · by_cases h6 : 6 ≤ kd
        · have HS := Lib.hid (startC HC5.out)
          go_wp2_with fail
          (with_reducible refine (HS.out).mono ?_)
          rintro _ wb ⟨rfl, ⟨Db, jb, gb, cb9⟩, mb⟩
          have HO := Lib.hid (againC g1 gb cb9 (by omega) (by omega))
          clear HS gb cb9 mb l0 l1 l2 l3 l4 l5
          go_wp2_with fail
          (with_reducible refine (HO.out).mono ?_)
          rintro _ w6 ⟨sb6, rfl, c6, m6⟩
          obtain ⟨S6, HC6⟩ : ∃ S6, Hid (CS w1 db 0 (fun _ => False) sb6 S6 (k + 1) w6) := by
            obtain ⟨x, j, D, e1, e2, e3⟩ := c6
            exact ⟨_, x, j, D, e1, e2, e3.mono (by omega)⟩
          clear HO c6 m6
          obtain ⟨x6, rfl, g6⟩ := HC6.out.st
          have hN6 := sNumbers_c g6
          have HN6 := Lib.hid hN6
          have HG6 := Lib.hid g6
          clear hN6 g6
          go_wp2_with fail
          (with_reducible refine (HN6.out).mono ?_)
          rintro _ w7 ⟨v7, rfl, hv7, u7⟩
          have HV7 := Lib.hid hv7
          have HU7 := Lib.hid u7
          clear hv7 u7
          go_upto_block 2 with fail
          refine wp_normal (sk_numsV (HG6.out.nw HU7.out) HV7.out _ (by kernel_rfl) ?_)
          intro u2 u11 u12 u13 u14 u74 u75 u76 u77 u78 u79 u80 u81 u82 u83 u84 u85 u86 u87 u88 u89 u90 u91 u92 u93 u94 u95 u96 u97 u98 u99 u100 u101 u102 u103 u104 u105 u106 u107 u108 u109 u110 u111 u112 u113 u114 u115 u116 u117 u118 u119 u120 u121 u122 u123 u124 w8 h8
          have HP := Lib.hid (sProfiles_c (HG6.out.nw (HU7.out.trans h8)))
          have H8 := Lib.hid h8
          clear h8
          go_wp2_with fail
          (with_reducible refine (HP.out).mono ?_)
          rintro _ w9 ⟨v9, rfl, hv9, un9⟩
          have HV9 := Lib.hid hv9
          have UN9 := Lib.hid un9
          clear hv9 un9
          go_upto_block 4 with fail
          refine wp_normal (sk_profsV (HG6.out.nw ((HU7.out.trans H8.out).trans UN9.out)) HV9.out _ (by kernel_rfl) ?_)
          intro u2 u17 u18 u19 u20 u21 u127 u128 u129 u130 u131 u132 u133 u134 u135 u136 u137 u138 u139 u140 u141 u142 u143 u144 u145 u146 u147 u148 u149 u150 u151 u152 u153 u154 u155 u156 u157 u158 u159 u160 u161 u162 u163 u164 u165 u166 u167 u168 u169 u170 u171 u172 u173 u174 u175 u176 u177 u178 u179 u180 u181 u182 u183 u184 u185 u186 u187 u188 w10 h10
          go_wp2_with fail
          go_roundw
          case rel => exact ⟨k + 1, by omega, by simp, x6.sb, S6, rfl, HC6.out.nw (((HU7.out.trans H8.out).trans UN9.out).trans h10)⟩
          case measure => simp only [intOf]; omega
        · obtain ⟨S6, HC6⟩ : ∃ S6, Hid (CS w1 db 0 (fun _ => False) sb2 S6 (k + 1) w5) := by
            obtain ⟨x, j, D, e1, e2, e3⟩ := HC5.out
            exact ⟨_, x, j, D, e1, e2, e3.mono (by omega)⟩
          have d9 : ¬ (0 ≤ kd ∧ kd ≤ 3) := h3
          rcases (by omega : kd < 0 ∨ (0 ≤ kd ∧ 3 < kd)) with h7 | ⟨h7, h8⟩
          · obtain ⟨x6, rfl, g6⟩ := HC6.out.st
            have hN6 := sNumbers_c g6
            have HN6 := Lib.hid hN6
            have HG6 := Lib.hid g6
            clear hN6 g6
            go_wp2_with fail
            (with_reducible refine (HN6.out).mono ?_)
            rintro _ w7 ⟨v7, rfl, hv7, u7⟩
            have HV7 := Lib.hid hv7
            have HU7 := Lib.hid u7
            clear hv7 u7
            go_upto_block 2 with fail
            refine wp_normal (sk_numsV (HG6.out.nw HU7.out) HV7.out _ (by kernel_rfl) ?_)
            intro u2 u11 u12 u13 u14 u74 u75 u76 u77 u78 u79 u80 u81 u82 u83 u84 u85 u86 u87 u88 u89 u90 u91 u92 u93 u94 u95 u96 u97 u98 u99 u100 u101 u102 u103 u104 u105 u106 u107 u108 u109 u110 u111 u112 u113 u114 u115 u116 u117 u118 u119 u120 u121 u122 u123 u124 w8 h8
            have HP := Lib.hid (sProfiles_c (HG6.out.nw (HU7.out.trans h8)))
            have H8 := Lib.hid h8
            clear h8
            go_wp2_with fail
            (with_reducible refine (HP.out).mono ?_)
            rintro _ w9 ⟨v9, rfl, hv9, un9⟩
            have HV9 := Lib.hid hv9
            have UN9 := Lib.hid un9
            clear hv9 un9
            go_upto_block 4 with fail
            refine wp_normal (sk_profsV (HG6.out.nw ((HU7.out.trans H8.out).trans UN9.out)) HV9.out _ (by kernel_rfl) ?_)
            intro u2 u17 u18 u19 u20 u21 u127 u128 u129 u130 u131 u132 u133 u134 u135 u136 u137 u138 u139 u140 u141 u142 u143 u144 u145 u146 u147 u148 u149 u150 u151 u152 u153 u154 u155 u156 u157 u158 u159 u160 u161 u162 u163 u164 u165 u166 u167 u168 u169 u170 u171 u172 u173 u174 u175 u176 u177 u178 u179 u180 u181 u182 u183 u184 u185 u186 u187 u188 w10 h10
            go_wp2_with fail
            go_roundw
            case rel => exact ⟨k + 1, by omega, by simp, x6.sb, S6, rfl, HC6.out.nw (((HU7.out.trans H8.out).trans UN9.out).trans h10)⟩
            case measure => simp only [intOf]; omega
          · obtain ⟨x6, rfl, g6⟩ := HC6.out.st
            have hN6 := sNumbers_c g6
            have HN6 := Lib.hid hN6
            have HG6 := Lib.hid g6
            clear hN6 g6
            go_wp2_with fail
            (with_reducible refine (HN6.out).mono ?_)
            rintro _ w7 ⟨v7, rfl, hv7, u7⟩
            have HV7 := Lib.hid hv7
            have HU7 := Lib.hid u7
            clear hv7 u7
            go_upto_block 2 with fail
            refine wp_normal (sk_numsV (HG6.out.nw HU7.out) HV7.out _ (by kernel_rfl) ?_)
            intro u2 u11 u12 u13 u14 u74 u75 u76 u77 u78 u79 u80 u81 u82 u83 u84 u85 u86 u87 u88 u89 u90 u91 u92 u93 u94 u95 u96 u97 u98 u99 u100 u101 u102 u103 u104 u105 u106 u107 u108 u109 u110 u111 u112 u113 u114 u115 u116 u117 u118 u119 u120 u121 u122 u123 u124 w8 h8
            have HP := Lib.hid (sProfiles_c (HG6.out.nw (HU7.out.trans h8)))
            have H8 := Lib.hid h8
            clear h8
            go_wp2_with fail
            (with_reducible refine (HP.out).mono ?_)
            rintro _ w9 ⟨v9, rfl, hv9, un9⟩
            have HV9 := Lib.hid hv9
            have UN9 := Lib.hid un9
            clear hv9 un9
            go_upto_block 4 with fail
            refine wp_normal (sk_profsV (HG6.out.nw ((HU7.out.trans H8.out).trans UN9.out)) HV9.out _ (by kernel_rfl) ?_)
            intro u2 u17 u18 u19 u20 u21 u127 u128 u129 u130 u131 u132 u133 u134 u135 u136 u137 u138 u139 u140 u141 u142 u143 u144 u145 u146 u147 u148 u149 u150 u151 u152 u153 u154 u155 u156 u157 u158 u159 u160 u161 u162 u163 u164 u165 u166 u167 u168 u169 u170 u171 u172 u173 u174 u175 u176 u177 u178 u179 u180 u181 u182 u183 u184 u185 u186 u187 u188 w10 h10
            go_wp2_with fail
            go_roundw
            case rel => exact ⟨k + 1, by omega, by simp, x6.sb, S6, rfl, HC6.out.nw (((HU7.out.trans H8.out).trans UN9.out).trans h10)⟩
            case measure => simp only [intOf]; omega
    · obtain hke : k = C.length := by omega
      rw [hke]
      have HN := Lib.hid (U1.out.trans HC.out.nw0)
      go_wp2_with fail
      go_ret
      exact ⟨rfl, HN.out⟩
end Go.Proofs.YtkldcnikeoofiaaGreatDoor
